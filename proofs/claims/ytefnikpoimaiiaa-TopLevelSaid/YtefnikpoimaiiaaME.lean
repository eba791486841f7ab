/- Functions that are given an own heap (at handle 0), which comes back turned: their contracts; contracts over what is published serve an own heap that is only read. Functions over an own heap whose handles begin at 3000: slice literals are published at once, their room is told. Contracts that yield what is published serve an own heap that is only read. Rows of an own heap: loads, the cells of a list of elements, a row from its block's first cell on. Keys of maps: a key is found, or it is not there. TopLevel: what its values are read as. TopLevel: all, ContainsFunc, IndexFunc at five types, for any test. (printed by a program of mine) TopLevel: the reference's functions, and the statement's copies. Contracts of tests; contracts by their first arguments; maps as lists of what they hold. TopLevel: tongue's check, where all is right. TopLevel: volume's tests, where all is right; a volume of one part; its paragraphs. TopLevel: the error of a volume: none, where all is right. TopLevel: no errata. TopLevel: anchored, and the error of a volume with no errata: none. TopLevel: the edition after no errata. TopLevel: what is printed. TopLevel: Print, and that it binds. TopLevel: what binds. TopLevel: a match of a text with itself, where all is right; the size of sentences. TopLevel: the sides of a step. TopLevel: both sides of a step; the lines at which steps begin. TopLevel: the lines at which steps begin. -/
import Derived.Test.YtefnikpoimaiiaaMD
import Derived.DeepKeys3
import Derived.Maps.Keyed
import Derived.WalkArith
set_option linter.unusedSimpArgs false
set_option linter.unusedVariables false
namespace Go.Pal
open Go.RowKit
def heapS (p:Hp):Nat→Option OB:=fun i=>cond (Nat.beq i 0) (some (.heap p)) none
theorem heapS_some {p:Hp} {i:Nat} {ob:OB} (h:heapS p i = some ob):i = 0∧ob = .heap p:=by
 unfold heapS at h
 cases hb:Nat.beq i 0 with
 | true=>rw [hb] at h;cases h;exact ⟨Nat.eq_of_beq_eq_true hb,rfl⟩
 | false=>rw [hb] at h;cases h
abbrev dom (p:Hp):Nat→Prop:=fun b=>∃ o,p b = some o
def HasHp (H:Nat→Option OB) (p:Hp):Prop:=∀ b o,p b = some o→(∃ q,H 0 = some (.heap q)∧q b = some o)∨(∃ h cs t vs,H h = some (.cells (.named b) cs t)∧toValsH H cs = some vs∧o = .cells vs.toArray t (0,0)) ∨
 ∃ h n cap vs rest t k,H h = some (.xrow b n cap vs rest t k)∧o = .cells (vs++rest).toArray t (0,0)
structure FinHp (H:Nat→Option OB) (A:Hp→Prop):Prop where
 ex:∃ p,HasHp H p∧A p
theorem FinHp.of {H:Nat→Option OB} {A:Hp→Prop} {p:Hp} (h:H 0 = some (.heap p)) (k:A p):FinHp H A:=⟨p,fun b o e=>.inl ⟨p,h,e⟩,k⟩
section
variable {P:Program}
theorem sat_startHp {n:Nat} {args:List Value} (hn:args.length≤n) {G p:Hp} {W:World} (hsub:Sub G W) (hp:∀ b o,p b = some o→W.heap[b]? = some o∧G b = none):Sat ⟨W,dom p,[]⟩ G n (fun k=>k < 1000) (fun _=>undef) ⟨argFr args,heapS p,G⟩ { tmps:=args.toArray++Array.replicate (n - args.toArray.size) undef,defers:=[] } W:=by
 refine ⟨⟨Beneath.refl ⟨W,_,[]⟩,hsub,fun b o h=>.inl h,fun h ob e=>?_,fun h ob v e e2=>?_,fun h ob e _ b hb=>?_,fun h ob h' ob' b e e2 _ _ _=>?_⟩,fun i=>argFr_ment _ args i,fun h ob e=>?_,fun i=>args_frame _ i,by simp;omega,rfl⟩
 ·obtain ⟨_,rfl⟩:=heapS_some e;exact fun b o ho=>⟨.inr ⟨o,ho⟩,(hp b o ho).1⟩
 ·obtain ⟨_,rfl⟩:=heapS_some e;cases e2
 ·obtain ⟨_,rfl⟩:=heapS_some e;obtain ⟨o,ho⟩:=hb;exact (hp b o ho).2
 ·obtain ⟨rfl,_⟩:=heapS_some e;obtain ⟨rfl,_⟩:=heapS_some e2;rfl
 ·obtain ⟨rfl,rfl⟩:=heapS_some e;exact ⟨Nat.le_of_ble_eq_true rfl,trivial⟩
def Off0 (H:Nat→Option OB) (b:Nat):Prop:=match H 0 with
 | some (.heap p)=>p b = none
 | _=>True
def nmL (H:Nat→Option OB) (G:Hp):List Nat→HK→Prop
 | [],A=>W (A H G)
 | h :: r,A=>match H h with
  | some (.cells .anon cs t)=>∀ b,Off0 H b→nmL (upd H h (some (.cells (.named b) cs t))) G r A
  | some (.row none _ _ _ _)=>pubR H G h fun H G=>nmL H G r A
  | _=>False
structure NmP (H:Nat→Option OB) (G:Hp) (A:HK):Prop where
 ex:∃ hs,nmL H G hs A
theorem nmL_sound {w0:Root} {W:World} {G0:Hp} {M:Nat→Prop} {E:Nat→Value}:∀ {hs:List Nat} {H:Nat→Option OB} {G:Hp} {A:HK},Good w0 G0 M E W H G→nmL H G hs A→∃ H' G',A H' G'∧Grow G G'∧Good w0 G0 M E W H' G'
 | [],H,G,A,hg,hk=>⟨H,G,hk.out,Grow.refl _,hg⟩
 | h :: r,H,G,A,hg,hk=>by
  simp only [nmL] at hk
  split at hk
  ·rename_i cs t e
   obtain ⟨b,vs,e1,e2,e3,e4,e5,_⟩:=hg.sim.own h _ e
   have hoff:Off0 H b:=by
    unfold Off0
    split
    ·rename_i p hp
     cases hb:p b with
     | none=>rfl
     | some o =>
      have:=hg.sim.inj h _ 0 _ b e hp rfl (show blkOf (E h) = some b by rw [e1];rfl) ⟨o,hb⟩
      subst this
      rw [hp] at e;cases e
    ·trivial
   exact nmL_sound (good_rename hg (ob':=.cells (.named b) cs t) e rfl rfl ⟨b,vs,e1,e2,e3,e4,e5,rfl⟩ (hg.mH h _ e).2) (hk b hoff)
  ·obtain ⟨H1,G1,k1,g1,hg1⟩:=pubR_sound hg hk
   obtain ⟨H2,G2,k2,g2,hg2⟩:=nmL_sound hg1 k1
   exact ⟨H2,G2,k2,g1.trans g2,hg2⟩
  ·exact hk.elim
def resN (rs:List IRes) (σ:St) (K:List Value→HK):Prop:=NmP σ.H σ.G fun H G=>resK σ rs H G K
def finHp (rs:List IRes) (σ:St) (K:Value→Hp→Hp→Prop):Prop:=resN rs σ fun vs H G=>FinHp H fun p=>K (wrapV vs) p G
theorem resN_sound {w0:Root} {W:World} {G0:Hp} {n:Nat} {M:Nat→Prop} {E:Nat→Value} {σ:St} {a:Act} (hs:Sat w0 G0 n M E σ a W) {rvs:List ResultVar} {rs:List IRes} {K:List Value→HK} (hc:compRes P rvs = some rs)
  (hk:resN rs σ K):∃ vs H' G',(rvs.mapM (resSem a.tmps)).run P W = .ok vs W∧K vs H' G'∧Grow σ.G G'∧Good w0 G0 M E W H' G':=by
 obtain ⟨hs',hk⟩:=hk
 obtain ⟨H1,G1,k1,g1,hg1⟩:=nmL_sound ⟨hs.sim,hs.mH⟩ hk
 obtain ⟨vs,H2,G2,r1,k2,g2,hg2⟩:=resK_sound hs hc hg1 k1
 exact ⟨vs,H2,G2,r1,k2,g1.trans g2,hg2⟩
theorem body_soundN (T:Tab P) {e:Env} (he:e.Ok P) {f:FuncId} {fn:Func} {c:Code} {ic:IC} {b2 bd:Nat} {rs:List IRes} (hf:P.funcs[f]? = some fn) (hb:fn.body = some c) (hc:compC P fn.ntmps c bd = some (ic,b2)) (hr:compRes P fn.results.toList = some rs)
  {args:Array Value} {σ:St} {W:World} {E0:Nat→Value} {K:St→List Value→HK} {R:Ending→World→Prop}
  (hs:SatE e [] fn.ntmps bd (fun _=>False) E0 σ { tmps:=args++Array.replicate (fn.ntmps - args.size) undef,defers:=[] } W)
  (h:vc P T.get ⟨e.l,e.Y,[],e.pn⟩ ic bd σ fun o _ σ=>match o with
   | .norm=>resN rs σ (K σ)
   | .ret=>resN rs σ (K σ)
   | .exit _=>False)
  (hq:∀ σ' W' M E vs H' G',K σ' vs H' G'→Grow σ.G G'→Done e (σ'.fr POS) M E W' H' G'→R (.returned (wrapV vs)) W') (hpn:e.pn = none:=by rfl):Calls P f args W R:=by
 refine body_end T he hf hb hc hs h ?_ (fun t C ht=>by rw [hpn] at ht;cases ht) (.inl hpn)
 intro σ' a' W' M E hk hg h4 h5
 obtain ⟨vs,H',G',r1,k1,g1,hg1⟩:=resN_sound h5 hr hk
 obtain ⟨q1,q2⟩:=h4.now he g1 hg1.sim
 exact ⟨_,results_run r1,hq σ' W' M E vs H' G' k1 (hg.trans g1) ⟨q2,q1.at_⟩⟩
def hpVC (P:Program) (tab:FuncId→Option PSpec) (ic:IC) (rs:List IRes) (args:List Value) (p G:Hp) (K:Value→Hp→Hp→Prop):Prop :=
 vc P tab (.no []) ic 1000 ⟨argFr args,heapS p,G⟩ fun o _ σ=>match o with
  | .norm=>finHp rs σ K
  | .ret=>finHp rs σ K
  | .exit _=>False
theorem hp_fin {p G:Hp} {W W':World} {sv:SV} {M:Nat→Prop} {E:Nat→Value} {v:Value} {H':Nat→Option OB} {p' G':Hp} {K:Value→Hp→Hp→Prop} (hhp:HasHp H' p') (k1:K v p' G') (hg:Grow G G') (hd:Done (baseEnv (dom p) G W) sv M E W' H' G') :
  ∃ v' p'' G'',Ending.returned v = .returned v'∧K v' p'' G''∧(∀ b o,p'' b = some o→W'.heap[b]? = some o∧G'' b = none∧((∃ o,p b = some o)∨W.heap.size≤b))∧Grow G G''∧Sub G'' W'∧(∀ b o,G'' b = some o→G b = some o∨(∃ o,p b = some o)∨W.heap.size≤b)∧Beneath ⟨W,dom p,[]⟩ W':=by
 obtain ⟨q1,q2,q3⟩:=baseEnv_at.1 hd.at_
 have own:∀ h ob b,H' h = some ob→ob.pub = none→ob.has (E h) b→W.heap.size≤b∨dom p b:=fun h ob b e1 e2 e3=>q3 b (.inl ⟨⟨h,ob,e1,e3⟩,hd.sim.priv h ob e1 e2 b e3⟩)
 refine ⟨_,p',G',rfl,k1,fun b o e=>?_,hg,hd.sim.sub,fun b o e=>(q2 b o e).imp id fun h=>h.elim .inr .inl,q1⟩
 rcases hhp b o e with ⟨q,e1,e2⟩ | ⟨h,cs,t,us,e1,e2,rfl⟩ | ⟨h,n,cap,us,rest,t,k,e1,rfl⟩
 ·exact ⟨(hd.sim.own 0 _ e1 b o e2).2,hd.sim.priv 0 _ e1 rfl b ⟨o,e2⟩,(own 0 _ b e1 rfl ⟨o,e2⟩).symm⟩
 ·obtain ⟨b',vs',f1,f2,f3,f4,f5,f6⟩:=hd.sim.own h _ e1
  have f6:b = b':=f6
  subst f6
  have:=toValsH_rel (fun h ob v e e'=>hd.sim.name e e') f4 e2
  subst this
  have hb:(OB.cells (.named b) cs t).has (E h) b:=show blkOf (E h) = _ by rw [f1];rfl
  exact ⟨f3,hd.sim.priv h _ e1 rfl b hb,(own h _ b e1 rfl hb).symm⟩
 ·obtain ⟨f1,f2,f3,_⟩:=hd.sim.own h _ e1
  have hb:(OB.xrow b n cap us rest t k).has (E h) b:=show blkOf (E h) = _ by rw [f1];rfl
  exact ⟨f3,hd.sim.priv h _ e1 rfl b hb,(own h _ b e1 rfl hb).symm⟩
theorem CompAt.callsHp {f:FuncId} {ic:IC} {rs:List IRes} {nt:Nat} (C:CompAt P f 1000 ic rs nt) (T:Tab P) {args:List Value} {p G:Hp} {W:World} {K:Value→Hp→Hp→Prop} (hn:args.length≤nt) (hsub:Sub G W) (hp:∀ b o,p b = some o→W.heap[b]? = some o∧G b = none) (h:hpVC P T.get ic rs args p G K) :
  Calls P f args.toArray W fun e W'=>∃ v p' G',e = .returned v∧K v p' G'∧(∀ b o,p' b = some o→W'.heap[b]? = some o∧G' b = none∧((∃ o,p b = some o)∨W.heap.size≤b))∧Grow G G'∧Sub G' W'∧(∀ b o,G' b = some o→G b = some o∨(∃ o,p b = some o)∨W.heap.size≤b)∧Beneath ⟨W,dom p,[]⟩ W':=by
 obtain ⟨fn,c,b2,h1,h2,h3,h4,rfl⟩:=C.ex
 have hs:SatE (baseEnv (dom p) G W) [] fn.ntmps 1000 (fun _=>False) (fun _=>undef) ⟨argFr args,heapS p,G⟩ { tmps:=args.toArray++Array.replicate (fn.ntmps - args.toArray.size) undef,defers:=[] } W :=
  SatE.of (r:=⟨W,dom p,[]⟩) (G0:=G) (fun _ h=>h) (fun _ h=>h.elim) (Agree.refl _ _) ⟨baseEnv_at.2 ⟨Beneath.refl ⟨W,_,[]⟩,fun b o h=>.inl h,fun b h=>h.elim (fun h=>.inr h.1) (fun ⟨d,hd,_⟩=>by cases hd)⟩,fun b ⟨o,hb⟩=>(Array.getElem?_eq_some_iff.1 (hp b o hb).1).1,hsub,marks_start⟩ (Grow.refl _) (sat_startHp hn hsub hp)
 refine body_soundN T baseEnv_ok h1 h2 h3 h4 (K:=fun _ vs H G=>FinHp H fun p=>K (wrapV vs) p G) hs h ?_
 intro σ' W' M E vs H' G' ⟨p',hhp,k1⟩ hg hd
 exact hp_fin hhp k1 hg hd
theorem CompAt.hp {f:FuncId} {ic:IC} {rs:List IRes} {nt:Nat} (C:CompAt P f 1000 ic rs nt) (T:Tab P) {sh:List Value→List Value} {pre:List Value→Hp→Hp→Prop} {post:List Value→Hp→Value→Hp→Hp→Prop} (hn:∀ args p G,pre args p G→(sh args).length≤nt)
  (hm:∀ args p v p' G G',Grow G G'→post args p v p' G→post args p v p' G') (h:∀ args p G,pre args p G→hpVC P T.get ic rs (sh args) p G fun v p' G'=>post args p v p' G'):Sound P f sh (.hp pre post) :=
 ⟨hm,fun args p G W hs hp hpre=>(C.callsHp T (hn args p G hpre) hs hp (h args p G hpre)).mono fun e W' ⟨v,p',G',h1,h2,h3,h4,h5,h6,h7⟩=>⟨v,p',G',h1,h2,h3,h4,h5,h6,h7⟩⟩
def panVC (P:Program) (tab:FuncId→Option PSpec) (t:TypeId) (C:St→Prop) (ic:IC) (args:List Value) (p G:Hp):Prop :=
 vc P tab (.pan t C) ic 1000 ⟨argFr args,heapS p,G⟩ fun o _ _=>match o with
  | .norm=>False
  | .ret=>False
  | .exit _=>False
def panEnv (t:TypeId) (C:St→Prop) (ln:Nat→Prop) (G:Hp) (W:World):Env:=⟨0,[],(baseEnv ln G W).J,(baseEnv ln G W).Jx,some (t,C)⟩
theorem panEnv_ok {t:TypeId} {C:St→Prop} {ln:Nat→Prop} {G:Hp} {W:World}:(panEnv t C ln G W).Ok P:=⟨baseEnv_ok (P:=P).st,baseEnv_ok (P:=P).stx,fun k args _ _ _ h=>by simp [panEnv] at h⟩
def HeapQ (Q:Hp→Prop) (σ:St):Prop:=∃ q, σ.H 0 = some (.heap q)∧Q q
theorem CompAt.pan {f:FuncId} {ic:IC} {rs:List IRes} {nt:Nat} (C:CompAt P f 1000 ic rs nt) (T:Tab P) {t:TypeId} {pre:List Value→Hp→Hp→Prop} {post:List Value→Hp→Hp→Prop} (hn:∀ args p G,pre args p G→args.length≤nt) (hnr:noRange ic = true) (h:∀ args p G,pre args p G→panVC P T.get t (HeapQ (post args p)) ic args p G):PanF P f t pre post:=by
 intro args p G W hsub hp hpre
 have hn:=hn args p G hpre
 obtain ⟨fn,c,b2,h1,h2,h3,h4,rfl⟩:=C.ex
 have he:(panEnv t (HeapQ (post args p)) (dom p) G W).Ok P:=panEnv_ok
 have hs:SatE (panEnv t (HeapQ (post args p)) (dom p) G W) [] fn.ntmps 1000 (fun _=>False) (fun _=>undef) ⟨argFr args,heapS p,G⟩ { tmps:=args.toArray++Array.replicate (fn.ntmps - args.toArray.size) undef,defers:=[] } W :=
  SatE.of (r:=⟨W,dom p,[]⟩) (G0:=G) (fun _ h=>h) (fun _ h=>h.elim) (Agree.refl _ _) ⟨baseEnv_at.2 ⟨Beneath.refl ⟨W,_,[]⟩,fun b o h=>.inl h,fun b h=>h.elim (fun h=>.inr h.1) (fun ⟨d,hd,_⟩=>by cases hd)⟩,fun b ⟨o,hb⟩=>(Array.getElem?_eq_some_iff.1 (hp b o hb).1).1,hsub,marks_start⟩ (Grow.refl _) (sat_startHp hn hsub hp)
 refine body_end T he h1 h2 h3 (End:=fun _=>False) hs (h args p G hpre) (fun σ' a' W' M E h=>h.elim) ?_ (.inr fun _ h=>h)
 ·intro t' C' ht bd' σ' a' W' ds' ch k0 k9 k1 k2 k3
  cases ht
  obtain ⟨q,kq1,kq2⟩:=k9
  have hds:=k0 hnr
  subst hds
  obtain ⟨M,E,e0,q1,q2,q3,q4,q5⟩:=k3.now he
  rw [e0] at q4 q5 ⊢
  obtain ⟨hat,hat2,hat3⟩:=baseEnv_at.1 q4.at_
  refine ⟨ch,q,rfl,k1,kq2,fun b o e=>⟨(q5.sim.own 0 _ kq1 b o e).2, ?_⟩,hat⟩
  exact (hat3 b (.inl ⟨⟨0,_,kq1,⟨o,e⟩⟩,q5.sim.priv 0 _ kq1 rfl b ⟨o,e⟩⟩)).symm

/-! ### An own heap that is only read -/
abbrev unionHp:=overG
theorem over_union {p G:Hp} (d:Disj p G):Over p G (unionHp p G):=over_G d
theorem Over.sub {p G G1:Hp} {W:World} (h:Over p G G1) (hs:Sub G W) (hp:∀ b o,p b = some o→W.heap[b]? = some o):Sub G1 W:=fun b o e=>(h.2.2 b o e).elim (hs b o) (hp b o)
theorem Sound.hpSca0 {f:FuncId} {sh:List Value→List Value} {pre:List Value→Hp→Hp→Prop} {post:List Value→Hp→Value→Hp→Hp→Prop} (hs:Sound P f sh (.hp pre post)) :
  Sound P f sh (.sca (fun args G=>pre args (fun _=>none) G) fun args _ v=>∃ p' G',post args (fun _=>none) v p' G'):=fun args G W hsub hpre =>
 (hs.2 args (fun _=>none) G W hsub (fun b o e=>by cases e) hpre).mono fun e W' ⟨v,p',G',h1,h2,_,_,_,_,hB⟩=>⟨v,h1,⟨p',G',h2⟩,⟨hB.os,hB.tape,hB.output,hB.size,fun k hk=>hB.block k hk (fun ⟨o,h⟩=>by cases h)⟩⟩
end
end Go.Pal

namespace Go.Pal
open Go.RowKit
section
variable {P:Program}
theorem sat_startHx {n:Nat} {args:List Value} (hn:args.length≤n) {G p:Hp} {W:World} (hsub:Sub G W) (hp:∀ b o,p b = some o→W.heap[b]? = some o∧G b = none):Sat ⟨W,dom p,[]⟩ G n (fun k=>k < 3000) (fun _=>undef) ⟨argFr args,heapS p,G⟩ { tmps:=args.toArray++Array.replicate (n - args.toArray.size) undef,defers:=[] } W:=by
 refine ⟨⟨Beneath.refl ⟨W,_,[]⟩,hsub,fun b o h=>.inl h,fun h ob e=>?_,fun h ob v e e2=>?_,fun h ob e _ b hb=>?_,fun h ob h' ob' b e e2 _ _ _=>?_⟩,fun i=>argFr_ment _ args i,fun h ob e=>?_,fun i=>args_frame _ i,by simp;omega,rfl⟩
 ·obtain ⟨_,rfl⟩:=heapS_some e;exact fun b o ho=>⟨.inr ⟨o,ho⟩,(hp b o ho).1⟩
 ·obtain ⟨_,rfl⟩:=heapS_some e;cases e2
 ·obtain ⟨_,rfl⟩:=heapS_some e;obtain ⟨o,ho⟩:=hb;exact (hp b o ho).2
 ·obtain ⟨rfl,_⟩:=heapS_some e;obtain ⟨rfl,_⟩:=heapS_some e2;rfl
 ·obtain ⟨rfl,rfl⟩:=heapS_some e;exact ⟨Nat.le_of_ble_eq_true rfl,trivial⟩
def hxVC (P:Program) (tab:FuncId→Option PSpec) (ic:IC) (rs:List IRes) (args:List Value) (p G:Hp) (K:Value→Hp→Hp→Prop):Prop :=
 vc P tab (.no []) ic 3000 ⟨argFr args,heapS p,G⟩ fun o _ σ=>match o with
  | .norm=>finHp rs σ K
  | .ret=>finHp rs σ K
  | .exit _=>False
theorem CompAt.callsHx {f:FuncId} {ic:IC} {rs:List IRes} {nt:Nat} (C:CompAt P f 3000 ic rs nt) (T:Tab P) {args:List Value} {p G:Hp} {W:World} {K:Value→Hp→Hp→Prop} (hn:args.length≤nt) (hsub:Sub G W) (hp:∀ b o,p b = some o→W.heap[b]? = some o∧G b = none) (h:hxVC P T.get ic rs args p G K) :
  Calls P f args.toArray W fun e W'=>∃ v p' G',e = .returned v∧K v p' G'∧(∀ b o,p' b = some o→W'.heap[b]? = some o∧G' b = none∧((∃ o,p b = some o)∨W.heap.size≤b))∧Grow G G'∧Sub G' W'∧(∀ b o,G' b = some o→G b = some o∨(∃ o,p b = some o)∨W.heap.size≤b)∧Beneath ⟨W,dom p,[]⟩ W':=by
 obtain ⟨fn,c,b2,h1,h2,h3,h4,rfl⟩:=C.ex
 have hs:SatE (baseEnv (dom p) G W) [] fn.ntmps 3000 (fun _=>False) (fun _=>undef) ⟨argFr args,heapS p,G⟩ { tmps:=args.toArray++Array.replicate (fn.ntmps - args.toArray.size) undef,defers:=[] } W :=
  SatE.of (r:=⟨W,dom p,[]⟩) (G0:=G) (fun _ h=>h) (fun _ h=>h.elim) (Agree.refl _ _) ⟨baseEnv_at.2 ⟨Beneath.refl ⟨W,_,[]⟩,fun b o h=>.inl h,fun b h=>h.elim (fun h=>.inr h.1) (fun ⟨d,hd,_⟩=>by cases hd)⟩,fun b ⟨o,hb⟩=>(Array.getElem?_eq_some_iff.1 (hp b o hb).1).1,hsub,marks_start⟩ (Grow.refl _) (sat_startHx hn hsub hp)
 refine body_soundN T baseEnv_ok h1 h2 h3 h4 (K:=fun _ vs H G=>FinHp H fun p=>K (wrapV vs) p G) hs h ?_
 intro σ' W' M E vs H' G' ⟨p',hhp,k1⟩ hg hd
 exact hp_fin hhp k1 hg hd
theorem CompAt.hx {f:FuncId} {ic:IC} {rs:List IRes} {nt:Nat} (C:CompAt P f 3000 ic rs nt) (T:Tab P) {sh:List Value→List Value} {pre:List Value→Hp→Hp→Prop} {post:List Value→Hp→Value→Hp→Hp→Prop} (hn:∀ args p G,pre args p G→(sh args).length≤nt)
  (hm:∀ args p v p' G G',Grow G G'→post args p v p' G→post args p v p' G') (h:∀ args p G,pre args p G→hxVC P T.get ic rs (sh args) p G fun v p' G'=>post args p v p' G'):Sound P f sh (.hp pre post) :=
 ⟨hm,fun args p G W hs hp hpre=>(C.callsHx T (hn args p G hpre) hs hp (h args p G hpre)).mono fun e W' ⟨v,p',G',h1,h2,h3,h4,h5,h6,h7⟩=>⟨v,p',G',h1,h2,h3,h4,h5,h6,h7⟩⟩
def OverX (p G:Hp) (Q:Hp→Prop):Prop:=∃ G0 G1,Grow G0 G∧Over p G0 G1∧Q G1
theorem OverX.grow {p G G':Hp} {Q:Hp→Prop} (hg:Grow G G') (h:OverX p G Q):OverX p G' Q:=by
 obtain ⟨G0,G1,h1,h2,h3⟩:=h
 exact ⟨G0,G1,h1.trans hg,h2,h3⟩
theorem OverX.at {p p' G G' G1':Hp} {Q:Hp→Prop} (h:OverX p G Q) (hq:∀ G G',Grow G G'→Q G→Q G') (hk:∀ b o,p b = some o→p' b = some o) (hg:Grow G G') (ho:Over p' G' G1'):Q G1':=by
 obtain ⟨G0,G1,h1,h2,h3⟩:=h
 exact hq G1 G1' (fun b o e=>(h2.2.2 b o e).elim (fun e=>ho.1 b o (hg b o (h1 b o e))) fun e=>ho.2.1 b o (hk b o e)) h3
theorem OverX.of {p G:Hp} {Q:Hp→Prop} (hd:Disj p G) (h:∀ G1,Over p G G1→Q G1):OverX p G Q:=⟨G,_,Grow.refl _,over_union hd,h _ (over_union hd)⟩
theorem OverX.imp {p G:Hp} {Q Q':Hp→Prop} (h:OverX p G Q) (hq:∀ G1,Q G1→Q' G1):OverX p G Q':=by
 obtain ⟨G0,G1,h1,h2,h3⟩:=h
 exact ⟨G0,G1,h1,h2,hq _ h3⟩
theorem Sound.hpRelX {f:FuncId} {sh:List Value→List Value} {pre:List Value→Hp→Prop} {q:List Value→Value→Hp→Prop} (hs:Sound P f sh (.rel pre q)) :
  Sound P f sh (.hp (fun args p G=>∀ G1,Disj p G→Over p G G1→pre args G1) fun args p v p' G=>p' = p∧OverX p G fun G1=>q args v G1):=by
 refine ⟨fun args p v p' G G' hg ⟨h1,h2⟩=>⟨h1,h2.grow hg⟩,fun args p G W hsub hp hpre=>?_⟩
 have d:Disj p G:=fun b o e=>(hp b o e).2
 have ho:=over_union d
 have hlow:∀ b o,p b = some o→b < W.heap.size:=fun b o e=>(Array.getElem?_eq_some_iff.1 (hp b o e).1).1
 refine (hs.2 args _ W (ho.sub hsub fun b o e=>(hp b o e).1) (hpre _ d ho)).mono ?_
 rintro e W' ⟨v,G1,rfl,h1,hg,hs1,hn,hB⟩
 have hkeep:∀ b o,p b = some o→G1 b = some o:=fun b o e=>hg b o (ho.2.1 b o e)
 obtain ⟨G2,hG2⟩:∃ G2:Hp,G2 = fun b=>match p b with
   | some _=>none
   | none=>G1 b:=⟨_,rfl⟩
 have g2n:∀ b o,p b = some o→G2 b = none:=fun b o e=>by rw [hG2];simp [e]
 have g2s:∀ b o,G2 b = some o→G1 b = some o∧p b = none:=fun b o e=>by
  rw [hG2] at e
  dsimp only at e
  cases hp:p b with
  | none=>rw [hp] at e;exact ⟨e,rfl⟩
  | some o'=>rw [hp] at e;cases e
 have gg:Grow G G2:=fun b o e=>by
  have h3:=hg b o (ho.1 b o e)
  rw [hG2]
  dsimp only
  cases hp:p b with
  | none=>exact h3
  | some o'=>rw [d b o' hp] at e;cases e
 have hover:Over p G2 G1:=⟨fun b o e=>(g2s b o e).1,hkeep,fun b o e=>by
  cases hp:p b with
  | none=>exact .inl (by rw [hG2];simp [hp,e])
  | some o'=>rw [hkeep b o' hp] at e;exact .inr e⟩
 refine ⟨v,p,G2,rfl,⟨rfl,G2,G1,Grow.refl _,hover,h1⟩,fun b o e=>⟨hs1 b o (hkeep b o e),g2n b o e, .inl ⟨o,e⟩⟩,gg,fun b o e=>hs1 b o (g2s b o e).1,fun b o e=>?_,⟨hB.os,hB.tape,hB.output,hB.size,fun k hk _=>hB.block k hk⟩⟩
 obtain ⟨k1,k2⟩:=g2s b o e
 rcases hn b o k1 with k3 | k3
 ·rcases ho.2.2 b o k3 with k4 | k4
  ·exact .inl k4
  ·rw [k2] at k4;cases k4
 ·exact .inr (.inr k3)
theorem OverX.rd {p G:Hp} {b off n:Nat} {cs:List Value} {A:List Value→Prop} (hp:∀ b o,p b = some o→∃ ds t,o = .cells ds t (0,0)) (h:OverX p G fun G1=>CellsAt G1 b off cs) (hn:0 < n) (hl:cs.length = n) (k:W (A cs)):RdhP p G b off n A:=by
 obtain ⟨G0,G1,h1,h2,h3⟩:=h
 obtain ⟨v,hv⟩:∃ v,cs[0]? = some v:=by
  cases cs with
  | nil=>simp at hl;omega
  | cons v r=>exact ⟨v,rfl⟩
 have h0:=h3 0 v hv
 cases hpb:p b with
 | none =>
  refine ⟨cs,⟨hl, .inl fun j w hj=>?_⟩,fun _=>k⟩
  have hj2:=h3 j w hj
  unfold rd1 at hj2 ⊢
  cases hG:G1 b with
  | none=>rw [hG] at hj2;simp at hj2
  | some o =>
   rcases h2.2.2 b o hG with e | e
   ·rw [h1 b o e];rw [hG] at hj2;exact hj2
   ·rw [hpb] at e;cases e
 | some o =>
  obtain ⟨ds,t,rfl⟩:=hp b o hpb
  have hG:=h2.2.1 b _ hpb
  refine ⟨cs,⟨hl, .inr ⟨ds.toList,t,by simpa using hpb, ?_⟩⟩,fun _=>k⟩
  apply List.ext_getElem?
  intro j
  by_cases hj:j < n
  ·have hjl:j < cs.length:=by omega
   have:=h3 j cs[j] (by simp [hjl])
   unfold rd1 at this
   rw [hG] at this
   rw [List.getElem?_eq_getElem hjl,List.getElem?_take,if_pos hj,List.getElem?_drop]
   simpa using this.symm
  ·rw [List.getElem?_eq_none (by omega),List.getElem?_take,if_neg hj]
end
end Go.Pal

namespace Go.Pal
open Go.RowKit
theorem RdhP.g {p G:Hp} {b off n:Nat} {A:List Value→Prop} {cs:List Value} (h:CellsAt G b off cs) (hl:cs.length = n) (k:W (A cs)):RdhP p G b off n A:=⟨cs,⟨hl, .inl h⟩,fun _=>k⟩
theorem RdhP.h {p G:Hp} {b off n:Nat} {A:List Value→Prop} {ds:List Value} {t:TypeId} (h:p b = some (.cells ds.toArray t (0,0))) (hl:((ds.drop off).take n).length = n) (k:W (A ((ds.drop off).take n))):RdhP p G b off n A:=⟨_,⟨hl, .inr ⟨ds,t,h,rfl⟩⟩,fun _=>k⟩
def KeepHp (F:Nat→Prop) (p p':Hp):Prop:=∀ b o, ¬ F b→p b = some o→p' b = some o
theorem KeepHp.refl {F:Nat→Prop} {p:Hp}:KeepHp F p p:=fun _ _ _ h=>h
theorem KeepHp.trans {F:Nat→Prop} {p q r:Hp} (h:KeepHp F p q) (h':KeepHp F q r):KeepHp F p r:=fun b o hf e=>h' b o hf (h b o hf e)
/-! ### The cells of a list of elements -/
abbrev flat {α:Type} (E:El α) (l:List α):List Value:=(l.map E.f).flatten
theorem flat_app {α:Type} (E:El α) (a b:List α):flat E (a++b) = flat E a++flat E b:=by simp [flat]
theorem flat_len {α:Type} (E:El α) (l:List α):(flat E l).length = l.length * E.k:=by
 induction l with
 | nil=>simp [flat]
 | cons x r ih=>rw [show flat E (x :: r) = E.f x++flat E r from rfl,List.length_append,ih,E.len,List.length_cons,Nat.add_mul,Nat.one_mul];omega
theorem flat_one {α:Type} (E:El α) (l:List α):∀ v∈flat E l,v.oneCell' = true:=fun v hv=>by
 obtain ⟨x,hx,hv⟩:=List.mem_flatten.1 hv
 obtain ⟨y,_,rfl⟩:=List.mem_map.1 hx
 exact E.one y v hv
theorem flat_split {α:Type} (E:El α) (l:List α) (i:Nat) (h:i < l.length):flat E l = flat E (l.take i)++(E.f l[i]++flat E (l.drop (i + 1))):=by
 have:l = l.take i++(l[i] :: l.drop (i + 1)):=by rw [← List.drop_eq_getElem_cons h,List.take_append_drop]
 calc flat E l = flat E (l.take i++(l[i] :: l.drop (i + 1))):=by rw [← this]
  _ = _:=by rw [flat_app];rfl
theorem flat_sub {α:Type} (E:El α) (l:List α) (rest:List Value) {i d n:Nat} (h:i < l.length) (hd:d + n≤E.k):((flat E l++rest).drop (i * E.k + d)).take n = ((E.f l[i]).drop d).take n:=by
 have hl:(flat E (l.take i)).length = i * E.k:=by rw [flat_len,List.length_take,Nat.min_eq_left (Nat.le_of_lt h)]
 have hf:=E.len l[i]
 rw [flat_split E l i h,List.append_assoc,List.append_assoc,List.drop_append,List.drop_of_length_le (by omega),List.nil_append,hl,Nat.add_sub_cancel_left,List.drop_append,List.take_append_of_le_length (by rw [List.length_drop];omega)]
theorem flat_at {α:Type} (E:El α) (l:List α) (rest:List Value) {i:Nat} (h:i < l.length):((flat E l++rest).drop (i * E.k)).take E.k = E.f l[i]:=by
 have:=flat_sub E l rest (d:=0) (n:=E.k) h (by omega)
 rw [Nat.add_zero,List.drop_zero] at this
 rw [this,List.take_of_length_le (Nat.le_of_eq (E.len _))]
def RowH {α:Type} (E:El α) (t:TypeId) (p:Hp) (v:Value) (l:List α):Prop :=
 (v = .slice none 0 0∧l = [])∨∃ b c rest,v = .slice (some ⟨b,0,none⟩) l.length c∧p b = some (.cells (flat E l++rest).toArray t (0,0))∧rest.length = (c - l.length) * E.k∧l.length≤c∧c≤maxLen
theorem RowH.nil {α:Type} {E:El α} {t:TypeId} {p:Hp}:RowH E t p (.slice none 0 0) []:=.inl ⟨rfl,rfl⟩
theorem RowH.cells {α:Type} {E:El α} {p:Hp} {b:Nat} {l:List α} {rest:List Value} {t:TypeId} (h:p b = some (.cells (flat E l++rest).toArray t (0,0))) {off n:Nat} {cs:List Value} (hcs:((flat E l++rest).drop off).take n = cs) {G:Hp} {A:List Value→Prop} (hl:cs.length = n) (k:W (A cs)):RdhP p G b off n A :=
 ⟨cs,⟨hl, .inr ⟨_,t,h,hcs.symm⟩⟩,fun _=>k⟩
theorem RowH.slV {α:Type} {E:El α} {t:TypeId} {p G:Hp} {v:Value} {l:List α} (h:RowH E t p v l) (hp:∀ b o,p b = some o→G b = some o) (hn:l.length≤140737488355328):SlV E G v l:=by
 rcases h with ⟨rfl,rfl⟩ | ⟨b,c,rest,rfl,hb,hr,hc,hm⟩
 ·exact SlV.nil
 ·refine ⟨_,_,_,rfl,⟨rfl,hc,fun _=>rfl,fun i hi=>⟨E.f l[i],E.len _, ?_,rfl⟩⟩,hn⟩
  intro j u hj
  have hjk:j < E.k:=by have:=(List.getElem?_eq_some_iff.1 hj).1;rwa [E.len] at this
  have e:=flat_at E l rest hi
  have:(flat E l++rest)[i * E.k + j]? = some u:=by
   rw [← List.getElem?_drop, ← hj, ← e,List.getElem?_take,if_pos hjk]
  simp only [rd1,ab_some,ao_some,Nat.zero_add,hp _ _ hb]
  simpa using this
section
variable {α:Type} {E:El α} {t:TypeId} {p:Hp}
theorem take_flat {l:List α} {rest:List Value}:(flat E l++rest).take (l.length * E.k) = flat E l:=by
 rw [List.take_append_of_le_length (by rw [flat_len];exact Nat.le_refl _),List.take_of_length_le (by rw [flat_len];exact Nat.le_refl _)]
theorem RowH.appIn {b c:Nat} {l us:List α} {rest:List Value} (hr:rest.length = (c - l.length) * E.k) (hc:l.length + us.length≤c) (hm:c≤maxLen) :
  RowH E t (upd p b (some (.cells ((flat E l++rest).take (l.length * E.k)++flat E us++(flat E l++rest).drop ((l.length + us.length) * E.k)).toArray t (0,0)))) (.slice (some ⟨b,0,none⟩) (l.length + us.length) c) (l++us):=by
 refine .inr ⟨b,c,rest.drop (us.length * E.k),by rw [List.length_append], ?_, ?_,by rw [List.length_append];exact hc,hm⟩
 ·rw [upd_same,take_flat,flat_app]
  simp only [List.append_assoc]
  congr 5
  rw [List.drop_append,List.drop_of_length_le (by rw [flat_len,Nat.add_mul];omega),List.nil_append,flat_len,Nat.add_mul,Nat.add_sub_cancel_left]
 ·rw [List.length_drop,hr,List.length_append, ← Nat.sub_mul]
  congr 1
  omega
theorem RowH.appNew {b c:Nat} {l us:List α} {vs rest':List Value} (hv:vs = flat E l) (hr:rest'.length = (c - (l.length + us.length)) * E.k) (hc:l.length + us.length≤c) (hm:c≤maxLen) :
  RowH E t (upd p b (some (.cells (vs++flat E us++rest').toArray t (0,0)))) (.slice (some ⟨b,0,none⟩) (l.length + us.length) c) (l++us):=by
 subst hv
 refine .inr ⟨b,c,rest',by rw [List.length_append],by rw [upd_same,flat_app],by rw [hr,List.length_append],by rw [List.length_append];exact hc,hm⟩
theorem RowH.mono {v:Value} {l:List α} {q:Hp} (h:RowH E t p v l) (hk:∀ b o,blkOf v = some b→p b = some o→q b = some o):RowH E t q v l:=by
 rcases h with ⟨h1,h2⟩ | ⟨b,c,rest,rfl,hb,h⟩
 ·exact .inl ⟨h1,h2⟩
 ·exact .inr ⟨b,c,rest,rfl,hk _ _ rfl hb,h⟩
end
theorem RowH.sl {α:Type} {E:El α} {t:TypeId} {p:Hp} {v:Value} {l:List α} (h:RowH E t p v l):∃ a c,v = .slice a l.length c:=by
 rcases h with ⟨rfl,rfl⟩ | ⟨b',c',rest,rfl,_⟩<;>exact ⟨_,_,rfl⟩
theorem RowH.off {α:Type} {E:El α} {t:TypeId} {p:Hp} {v:Value} {l:List α} (h:RowH E t p v l) {b:Nat} {o:Option Obj} (hb:blkOf v≠some b):RowH E t (upd p b o) v l :=
 h.mono fun k o' e1 e2=>by rw [upd_other _ _ (fun he=>hb (by rw [he] at e1;exact e1))];exact e2
end Go.Pal

namespace Go.Pal
open Go

end Go.Pal

namespace Go.Proofs.Ytefnikpoimaiiaa
open Go.Pal Go.RowKit
set_option maxRecDepth 100000
abbrev I (n:Int):Value:=.int .i64 n
abbrev U (n:Int):Value:=.int .u8 n
def intE:El Int:=⟨1,fun x=>[I x],fun {x y} h=>by simp at h;exact h,fun _=>rfl,fun _ v hv=>by simp at hv;rw [hv];rfl⟩
def u8E:El Int:=⟨1,fun x=>[U x],fun {x y} h=>by simp at h;exact h,fun _=>rfl,fun _ v hv=>by simp at hv;rw [hv];rfl⟩
abbrev SnRaw:=Option Addr × Nat × Nat × Int
abbrev snVal (x:SnRaw):Value:=.agg #[.slice x.1 x.2.1 x.2.2.1,I x.2.2.2]
def snE:El SnRaw:=⟨2,fun x=>[.slice x.1 x.2.1 x.2.2.1,I x.2.2.2],fun {x y} h=>by obtain ⟨_,_,_,_⟩:=x;obtain ⟨_,_,_,_⟩:=y;simp at h;simp [h],fun _=>rfl,fun _ v hv=>by simp at hv;rcases hv with rfl | rfl<;>rfl⟩
abbrev paVal (x:Int × ByteArray):Value:=.agg #[I x.1, .string x.2]
def paE:El (Int × ByteArray):=⟨2,fun x=>[I x.1, .string x.2],fun {x y} h=>by obtain ⟨_,_⟩:=x;obtain ⟨_,_⟩:=y;simp at h;simp [h],fun _=>rfl,fun _ v hv=>by simp at hv;rcases hv with rfl | rfl<;>rfl⟩
structure Er where
 num:Int
 day:Int
 kind:Int
 anc:Int
 text:ByteArray
 new:Int
abbrev erVal (x:Er):Value:=.agg #[I x.num,I x.day,U x.kind,I x.anc, .string x.text,I x.new]
def erE:El Er:=⟨6,fun x=>[I x.num,I x.day,U x.kind,I x.anc, .string x.text,I x.new],fun {x y} h=>by cases x;cases y;simp at h;simp [h],fun _=>rfl,fun _ v hv=>by simp at hv;rcases hv with rfl | rfl | rfl | rfl | rfl | rfl<;>rfl⟩
structure Sn where
 marks:List Int
 size:Int
def SnR (G:Hp) (cs:List Value) (w:Sn):Prop:=∃ h,cs = [h,I w.size]∧SlV intE G h w.marks
theorem SnR.uniq {G:Hp} {cs:List Value} {x y:Sn} (h:SnR G cs x) (h':SnR G cs y):x = y:=by
 obtain ⟨a,e,h1⟩:=h
 obtain ⟨b,e',h2⟩:=h'
 rw [e] at e'
 simp only [List.cons.injEq,Value.int.injEq,true_and,and_true] at e'
 obtain ⟨e1,e2⟩:=e'
 subst e1
 have:=h1.uniq h2
 cases x;cases y;simp_all
theorem SnR.grow {G G':Hp} (hg:Grow G G') {cs:List Value} {x:Sn} (h:SnR G cs x):SnR G' cs x:=by
 obtain ⟨a,e,h1⟩:=h
 exact ⟨a,e,h1.grow hg⟩
def SnsV (G:Hp) (v:Value) (ws:List Sn):Prop:=∃ a n c,v = .slice a n c∧SlR 2 SnR G a n c ws∧n≤140737488355328
theorem SnsV.grow {G G':Hp} (hg:Grow G G') {v:Value} {ws:List Sn} (h:SnsV G v ws):SnsV G' v ws:=by
 obtain ⟨a,n,c,e,h1,h2⟩:=h
 exact ⟨a,n,c,e,SlR.grow (fun _ _ h=>h.grow hg) h1 hg,h2⟩
def inF (n lo hi:Int):Bool:=decide (lo≤n∧n≤hi)
def inS:PSpec:=.fn (fun args _=>∃ n lo hi,args = [I n,I lo,I hi]) (fun args=>match args with | [.int _ n, .int _ lo, .int _ hi]=>.bool (inF n lo hi) | _=>undef)
theorem row_sub {α:Type} {e:El α} {l:List α} {n:Nat} {vs:List Value} (h:Row e l n vs) {i d m:Nat} (hi:i < l.length) (hd:d + m≤e.k):(vs.drop (i * e.k + d)).take m = ((e.f l[i]).drop d).take m:=by
 have h1:=flat_sub e l [] (d:=d) (n:=m) hi hd
 rw [List.append_nil] at h1
 rw [h.vs];exact h1
theorem SlR.conv {α β:Type} {k:Nat} {R:Hp→List Value→α→Prop} {R':Hp→List Value→β→Prop} {G:Hp} {a:Option Addr} {n c:Nat} {l:List α} {l':List β} (h:SlR k R G a n c l) (hl:l'.length = l.length) (hc:∀ i (h1:i < l.length) (h2:i < l'.length) cs,R G cs l[i]→R' G cs l'[i]):SlR k R' G a n c l':=by
 refine ⟨by rw [hl];exact h.len,h.cap,h.some,fun i hi=>?_⟩
 obtain ⟨cs,k1,k2,k3⟩:=h.at_ i (by omega)
 exact ⟨cs,k1,k2,hc i (by omega) hi cs k3⟩
theorem SlR.cut {α:Type} {k:Nat} {R:Hp→List Value→α→Prop} {G:Hp} {a:Option Addr} {n c:Nat} {l:List α} (h:SlR k R G a n c l) {b m:Nat} (hb:b≤m) (hm:m≤n) (hc:c≠b) (hn:n≠0):SlR k R G (cutA a b c k) (m - b) (c - b) ((l.take m).drop b):=by
 have h1:=h.some hn
 have hcap:=h.cap
 have hlen:=h.len
 generalize hB:ab a = B at h1
 generalize hO:ao a = O at h1
 have hX:cutA a b c k = some ⟨B,O + b * k,none⟩:=by
  rw [cutA,if_neg hc,h1]
  show some (Addr.add _ _) = _
  unfold Addr.add
  split
  ·rename_i h0;rw [h0];rfl
  ·rfl
 rw [hX]
 refine ⟨by simp;omega,by omega,fun _=>rfl,fun i hi=>?_⟩
 have hi':b + i < l.length:=by simp at hi;omega
 obtain ⟨cs,k1,k2,k3⟩:=h.at_ (b + i) hi'
 refine ⟨cs,k1, ?_,by simpa using k3⟩
 rw [hB,hO] at k2
 show CellsAt G B (O + b * k + i * k) cs
 rw [show O + b * k + i * k = O + (b + i) * k by rw [Nat.add_mul];omega]
 exact k2
theorem den_set_eq {P:Program} {hid:Nat} {Gr G:Hp} {K:SV→List (Nat × Option OB)→Hp→Prop} {h:Nat} {s:Nm} {cs cs':List S1} {t:TypeId} {sv:SV} (e:cs = cs') (hk:Res.den P hid Gr G K (.set h (.cells s cs' t) sv)):Res.den P hid Gr G K (.set h (.cells s cs t) sv):=by
 subst e;exact hk
theorem take_snoc {α:Type} {l:List α} {i:Nat} {x:α} (h:l[i]? = some x):l.take (i + 1) = l.take i++[x]:=by
 rw [List.take_add_one,h];rfl
end Go.Proofs.Ytefnikpoimaiiaa

namespace Go.Proofs.Ytefnikpoimaiiaa
open Go.Pal
set_option maxRecDepth 100000
abbrev bptr (b:Nat):Value:=.pointer (some ⟨b,0,none⟩)
def TestS {α:Type} (val:α→Value) (p:α→Bool) (q:α→Prop) (J:Hp→Prop) (ls:List LE):PSpec :=
 .st (fun args l G=>l = ls∧J G∧∃ x,args = [val x]∧q x) (fun args l v ns _=>ns = []∧∃ x,args = [val x]∧v = .bool (p x))
def AllS {α:Type} (e:El α) (right:Value) (r:List α→Value) (q:α→Prop) (J:Hp→Prop) (ls:List LE):PSpec :=
 .st (fun args l G=>l = ls∧J G∧∃ w xs,args = [w,right]∧SlV e G w xs∧∀ x∈xs,q x) (fun args l v ns G=>ns = []∧∃ w xs,args = [w,right]∧SlV e G w xs∧v = r xs)
def idxP {α:Type} (p:α→Bool) (l:List α) (k:Nat):Int:=match l with
 | []=>-1
 | r :: t=>if p r then idxP p t (k + 1) else (k:Int)
theorem idxP_all {α:Type} (p:α→Bool):∀ (l:List α) (k:Nat),decide (0≤idxP p l k) = !(l.all p)
 | [],k=>rfl
 | r :: t,k=>by
  unfold idxP
  cases hf:p r with
  | true=>simp only [if_true,List.all_cons,hf,Bool.true_and];exact idxP_all p t _
  | false=>simp [hf]
theorem at0 {P:Program} {f:FuncId} {ic:IC} {rs:List IRes} {nt:Nat} (h:Comp P f ic rs nt):CompAt P f 0 ic rs nt:=⟨h.ex⟩

/-! ### 127 -/
theorem inj127:∀ x y:SnRaw,(snVal) x = (snVal) y→x = y:=fun x y h=>by obtain ⟨_,_,_,_⟩:=x;obtain ⟨_,_,_,_⟩:=y;simp [snVal] at h;simp [h]
theorem not163 (g:FuncId) (fi ca:Array Value) (p:SnRaw→Bool) (q:SnRaw→Prop) (J:Hp→Prop) (b:Nat) (hr:SoundFn Try.prog (.func (.func g) fi ca) (TestS snVal p q J [])):Sound Try.prog 163 (fun a=>(#[]:Array Value).toList++a++(#[bptr b]:Array Value).toList) (TestS snVal (fun x=>!p x) q J [⟨b,false, .cells [.func (.func g) fi ca] 246⟩]):=by
 refine ⟨fun args ls v ns G G' hg h=>h,fun args ls G Wd hsub hls hnd hpre=>?_⟩
 obtain ⟨rfl,hj,x,rfl,hx⟩:=hpre
 refine st_sound (Tab.nil _) comp163 (svs:=[.agg [.val (.slice x.1 x.2.1 x.2.2.1), .val (I x.2.2.2)], .c (.ptr 0 0)]) (obs:=[.cells (.named b) [.val (.func (.func g) fi ca)] 246]) (by simp) hsub hls hnd (Nat.le_of_ble_eq_true rfl) ?_ ?_ ?_
 ·exact ⟨⟨[.slice x.1 x.2.1 x.2.2.1,I x.2.2.2],rfl,relL_vals _ [.slice x.1 x.2.1 x.2.2.1,I x.2.2.2]⟩,(by intro c hc;simp at hc;rcases hc with rfl | rfl<;>trivial),⟨_,rfl,rfl⟩,(Nat.le_of_ble_eq_true rfl:0 < 1),trivial⟩
 ·exact ⟨⟨_,rfl,relL_vals _ [.func (.func g) fi ca],(by intro c hc;simp at hc;subst hc;trivial)⟩,trivial⟩
 ·(conv=>whnf)
  refine CallvP.fn _ hr (W.mk ?_)
  (conv=>whnf)
  refine StP.mk ⟨[],trivial,(by show ([]:List Nat).Nodup;decide),⟨rfl,hj,x,rfl,hx⟩,fun v ns G3 hg3 hpost=>W.mk ?_⟩
  obtain ⟨rfl,y,q1,rfl⟩:=hpost
  have hxy:=inj127 x y (List.cons.inj q1).1
  subst hxy
  (conv=>whnf)
  refine ForkP.mk (fun hm=>W.mk ?_) (fun hm=>W.mk ?_)<;>(conv=>whnf)<;>refine FinS.mk ⟨[],⟨.cells [.func (.func g) fi ca] 246,⟨_,rfl,rfl⟩,trivial,rfl,rfl⟩,rfl,x,rfl, ?_⟩<;>(show Value.bool _ = Value.bool (!p x);rw [hm];rfl)
theorem idx192 (g:FuncId) (fi ca:Array Value) (p:SnRaw→Bool) (q:SnRaw→Prop) (J:Hp→Prop) (b:Nat) (hJ:∀ G G',Grow G G'→J G→J G') (hr:SoundFn Try.prog (.func (.func g) fi ca) (TestS snVal p q J [])):Sound Try.prog 192 id (AllS snE (.func (.func 163) #[] #[bptr b]) (fun xs=>I (idxP p xs 0)) q J [⟨b,false, .cells [.func (.func g) fi ca] 246⟩]):=by
 refine ⟨fun args ls v ns G G' hg h=>?_,fun args ls G Wd hsub hls hnd hpre=>?_⟩
 ·obtain ⟨h0,w,xs,h1,h2,h3⟩:=h;exact ⟨h0,w,xs,h1,h2.grow hg,h3⟩
 obtain ⟨rfl,hj,w,l,rfl,⟨a,n,c,rfl,hl,hn⟩,hq⟩:=hpre
 refine st_sound (Tab.nil _) comp192 (svs:=[.v (.slice a n c), .v (.func (.func 163) #[] #[bptr b])]) (obs:=[.cells (.named b) [.val (.func (.func g) fi ca)] 246]) (by simp) hsub hls hnd (Nat.le_of_ble_eq_true rfl) ?_ ?_ ?_
 ·exact ⟨rfl,trivial,rfl,trivial,trivial⟩
 ·exact ⟨⟨_,rfl,relL_vals _ [.func (.func g) fi ca],(by intro c hc;simp at hc;subst hc;trivial)⟩,trivial⟩
 ·have hlen:=hl.len
  (conv=>whnf)
  refine LoopP.of { α:=Nat,fr:=fun x=>[(0, .v (.slice a n c)),(1, .v (.func (.func 163) #[] #[bptr b])),(7, .v (I n)),(8, .v (I x))],H:=fun _=>[(0, .cells (.named b) [.val (.func (.func g) fi ca)] 246)],ok:=fun i _=>i≤l.length∧idxP p (l.drop i) i = idxP p l 0,m:=fun x=>l.length - x }
   0 (HeadP.of [] ⟨rfl,rfl,rfl,rfl,trivial⟩ ⟨rfl,trivial⟩) ⟨Nat.zero_le _,rfl⟩ (fun _=>⟨rfl,rfl⟩) (fun (i:Nat) G' hG hx=>W.mk ?_)
  obtain ⟨hi,hx⟩:=hx
  replace hl:=SlR.grow (G:=G) (G':=G') (fun _ _ h=>h) hl hG
  replace hj:=hJ _ _ hG hj
  (conv=>whnf)
  refine IteP.mk (fun hlt=>W.mk ?_) (fun hge=>W.mk ?_)<;>(conv=>whnf)
  ·have hlt:i < l.length:=by omega
   have hc:=hl.el hlt
   have hqi:=hq _ (List.getElem_mem hlt)
   rw [List.drop_eq_getElem_cons hlt,idxP] at hx
   repeat' (first | (refine ob ?_ ?_;(first | trivial | omega | (simp only [inR];omega) | exact ble (by rfl) | exact SlR.some ‹_› (by omega));(conv=>whnf)) | (first | (refine ra ‹_› (by rfl) ?_;(conv=>whnf)) | (refine rb ‹_› (by rfl) ?_;(conv=>whnf)) | (refine rc ‹_› (by rfl) ?_;(conv=>whnf)) | (refine rd ‹_› (by rfl) ?_;(conv=>whnf))))
   refine CallvP.fn _ (SoundFn.of body163 (not163 g fi ca p q J b hr)) (W.mk ?_)
   (conv=>whnf)
   refine StP.mk ⟨[(0,⟨b,false, .cells [.func (.func g) fi ca] 246⟩)],⟨⟨_,rfl,rfl⟩,trivial⟩,(by show ([0]:List Nat).Nodup;decide),⟨rfl,hj,l[i],rfl,hqi⟩,fun v ns G3 hg3 hpost=>W.mk ?_⟩
   obtain ⟨rfl,y,q1,rfl⟩:=hpost
   have hxy:=inj127 _ y (List.cons.inj q1).1
   subst hxy
   (conv=>whnf)
   refine ForkP.mk (fun hm=>W.mk ?_) (fun hm=>W.mk ?_)<;>(conv=>whnf)
   ·refine FinS.mk ⟨[],⟨.cells [.func (.func g) fi ca] 246,⟨_,rfl,rfl⟩,trivial,rfl,rfl⟩,rfl,_,l,rfl,⟨a,n,c,rfl,SlR.grow (G:=G') (G':=G3) (fun _ _ h=>h) hl hg3,hn⟩, ?_⟩
    rw [if_neg (by simpa using hm)] at hx
    show I (i:Int) = I (idxP p l 0);rw [← hx]
   ·(refine ob ?_ ?_;(first | trivial | omega | (simp only [inR];omega) | exact ble (by rfl) | exact SlR.some ‹_› (by omega));(conv=>whnf))
    rw [if_pos (by simpa using hm)] at hx
    exact RoundP.of (i + 1) (HeadP.of [] ⟨rfl,rfl,rfl,rfl,trivial⟩ ⟨rfl,trivial⟩) ⟨hlt,hx⟩ (by simp only;omega)
  ·have:i = l.length:=by omega
   subst this
   rw [List.drop_length] at hx
   refine FinS.mk ⟨[],⟨.cells [.func (.func g) fi ca] 246,⟨_,rfl,rfl⟩,trivial,rfl,rfl⟩,rfl,_,l,rfl,⟨a,n,c,rfl,hl,hn⟩, ?_⟩
   show I (-1) = I (idxP p l 0);rw [← hx];rfl
theorem con162 (g:FuncId) (fi ca:Array Value) (p:SnRaw→Bool) (q:SnRaw→Prop) (J:Hp→Prop) (b:Nat) (hJ:∀ G G',Grow G G'→J G→J G') (hr:SoundFn Try.prog (.func (.func g) fi ca) (TestS snVal p q J [])):Sound Try.prog 162 id (AllS snE (.func (.func 163) #[] #[bptr b]) (fun xs=>.bool (!(xs.all p))) q J [⟨b,false, .cells [.func (.func g) fi ca] 246⟩]):=by
 refine ⟨fun args ls v ns G G' hg h=>?_,fun args ls G Wd hsub hls hnd hpre=>?_⟩
 ·obtain ⟨h0,w,xs,h1,h2,h3⟩:=h;exact ⟨h0,w,xs,h1,h2.grow hg,h3⟩
 obtain ⟨rfl,hj,w,l,rfl,⟨a,n,c,rfl,hl,hn⟩,hq⟩:=hpre
 refine st_sound (Tab.cons 192 _ (idx192 g fi ca p q J b hJ hr) body192 (Tab.nil _)) comp162 (svs:=[.v (.slice a n c), .v (.func (.func 163) #[] #[bptr b])]) (obs:=[.cells (.named b) [.val (.func (.func g) fi ca)] 246]) (by simp) hsub hls hnd (Nat.le_of_ble_eq_true rfl) ?_ ?_ ?_
 ·exact ⟨rfl,trivial,rfl,trivial,trivial⟩
 ·exact ⟨⟨_,rfl,relL_vals _ [.func (.func g) fi ca],(by intro c hc;simp at hc;subst hc;trivial)⟩,trivial⟩
 ·(conv=>whnf)
  refine StP.mk ⟨[(0,⟨b,false, .cells [.func (.func g) fi ca] 246⟩)],⟨⟨_,rfl,rfl⟩,trivial⟩,(by show ([0]:List Nat).Nodup;decide),⟨rfl,hj,_,l,rfl,⟨a,n,c,rfl,hl,hn⟩,hq⟩,fun v ns G3 hg3 hpost=>W.mk ?_⟩
  obtain ⟨rfl,w',l',q1,q2,rfl⟩:=hpost
  simp only [List.cons.injEq,and_true] at q1
  subst q1
  have:l' = l:=q2.uniq (SlV.grow hg3 ⟨a,n,c,rfl,hl,hn⟩)
  subst this
  have hall:=idxP_all p l' 0
  (conv=>whnf)
  refine IteP.mk (fun hq=>W.mk ?_) (fun hq=>W.mk ?_)<;>(conv=>whnf)<;>refine FinS.mk ⟨[],⟨.cells [.func (.func g) fi ca] 246,⟨_,rfl,rfl⟩,trivial,rfl,rfl⟩,rfl,_,l',rfl,q2, ?_⟩<;>show Value.bool _ = Value.bool (!(l'.all p))<;>rw [← hall]<;>simp [*]
theorem all127 (g:FuncId) (fi ca:Array Value) (p:SnRaw→Bool) (q:SnRaw→Prop) (J:Hp→Prop) (hJ:∀ G G',Grow G G'→J G→J G') (hr:SoundFn Try.prog (.func (.func g) fi ca) (TestS snVal p q J [])):Sound Try.prog 127 id (AllS snE (.func (.func g) fi ca) (fun xs=>.bool (xs.all p)) q J []):=by
 refine ⟨fun args ls v ns G G' hg h=>?_,fun args ls G Wd hsub hls hnd hpre=>?_⟩
 ·obtain ⟨h0,w,xs,h1,h2,h3⟩:=h;exact ⟨h0,w,xs,h1,h2.grow hg,h3⟩
 obtain ⟨rfl,hj,w,l,rfl,⟨a,n,c,rfl,hl,hn⟩,hq⟩:=hpre
 refine st_sound (Tab.nil _) (at0 comp127) (svs:=[.v (.slice a n c), .v (.func (.func g) fi ca)]) (obs:=[]) (by simp) hsub hls hnd (Nat.le_of_ble_eq_true rfl) ?_ ?_ ?_
 ·exact ⟨rfl,trivial,rfl,trivial,trivial⟩
 ·exact trivial
 ·(conv=>whnf)
  refine NameP.mk (fun b=>W.mk ?_)
  (conv=>whnf)
  refine CallN.mk ⟨_,con162 g fi ca p q J b hJ hr,body162,W.mk ?_⟩
  (conv=>whnf)
  refine StP.mk ⟨[(0,⟨b,false, .cells [.func (.func g) fi ca] 246⟩)],⟨⟨_,rfl,rfl⟩,trivial⟩,(by show ([0]:List Nat).Nodup;decide),⟨rfl,hj,_,l,rfl,⟨a,n,c,rfl,hl,hn⟩,hq⟩,fun v ns G3 hg3 hpost=>W.mk ?_⟩
  obtain ⟨rfl,w',l',q1,q2,rfl⟩:=hpost
  simp only [List.cons.injEq,and_true] at q1
  subst q1
  have:l' = l:=q2.uniq (SlV.grow hg3 ⟨a,n,c,rfl,hl,hn⟩)
  subst this
  (conv=>whnf)
  refine ForkP.mk (fun hm=>W.mk ?_) (fun hm=>W.mk ?_)<;>(conv=>whnf)<;>refine FinS.mk ⟨[],rfl,rfl,_,l',rfl,q2, ?_⟩<;>(refine congrArg Value.bool ?_;simpa using hm)

/-! ### 165 -/
theorem inj165:∀ x y:Int,(I) x = (I) y→x = y:=fun x y h=>by cases h;rfl
theorem not193 (g:FuncId) (fi ca:Array Value) (p:Int→Bool) (q:Int→Prop) (J:Hp→Prop) (b:Nat) (hr:SoundFn Try.prog (.func (.func g) fi ca) (TestS I p q J [])):Sound Try.prog 193 (fun a=>(#[]:Array Value).toList++a++(#[bptr b]:Array Value).toList) (TestS I (fun x=>!p x) q J [⟨b,false, .cells [.func (.func g) fi ca] 136⟩]):=by
 refine ⟨fun args ls v ns G G' hg h=>h,fun args ls G Wd hsub hls hnd hpre=>?_⟩
 obtain ⟨rfl,hj,x,rfl,hx⟩:=hpre
 refine st_sound (Tab.nil _) comp193 (svs:=[.v (I x), .c (.ptr 0 0)]) (obs:=[.cells (.named b) [.val (.func (.func g) fi ca)] 136]) (by simp) hsub hls hnd (Nat.le_of_ble_eq_true rfl) ?_ ?_ ?_
 ·exact ⟨rfl,trivial,⟨_,rfl,rfl⟩,(Nat.le_of_ble_eq_true rfl:0 < 1),trivial⟩
 ·exact ⟨⟨_,rfl,relL_vals _ [.func (.func g) fi ca],(by intro c hc;simp at hc;subst hc;trivial)⟩,trivial⟩
 ·(conv=>whnf)
  refine CallvP.fn _ hr (W.mk ?_)
  (conv=>whnf)
  refine StP.mk ⟨[],trivial,(by show ([]:List Nat).Nodup;decide),⟨rfl,hj,x,rfl,hx⟩,fun v ns G3 hg3 hpost=>W.mk ?_⟩
  obtain ⟨rfl,y,q1,rfl⟩:=hpost
  have hxy:=inj165 x y (List.cons.inj q1).1
  subst hxy
  (conv=>whnf)
  refine ForkP.mk (fun hm=>W.mk ?_) (fun hm=>W.mk ?_)<;>(conv=>whnf)<;>refine FinS.mk ⟨[],⟨.cells [.func (.func g) fi ca] 136,⟨_,rfl,rfl⟩,trivial,rfl,rfl⟩,rfl,x,rfl, ?_⟩<;>(show Value.bool _ = Value.bool (!p x);rw [hm];rfl)
theorem idx158 (g:FuncId) (fi ca:Array Value) (p:Int→Bool) (q:Int→Prop) (J:Hp→Prop) (b:Nat) (hJ:∀ G G',Grow G G'→J G→J G') (hr:SoundFn Try.prog (.func (.func g) fi ca) (TestS I p q J [])):Sound Try.prog 158 id (AllS intE (.func (.func 193) #[] #[bptr b]) (fun xs=>I (idxP p xs 0)) q J [⟨b,false, .cells [.func (.func g) fi ca] 136⟩]):=by
 refine ⟨fun args ls v ns G G' hg h=>?_,fun args ls G Wd hsub hls hnd hpre=>?_⟩
 ·obtain ⟨h0,w,xs,h1,h2,h3⟩:=h;exact ⟨h0,w,xs,h1,h2.grow hg,h3⟩
 obtain ⟨rfl,hj,w,l,rfl,⟨a,n,c,rfl,hl,hn⟩,hq⟩:=hpre
 refine st_sound (Tab.nil _) comp158 (svs:=[.v (.slice a n c), .v (.func (.func 193) #[] #[bptr b])]) (obs:=[.cells (.named b) [.val (.func (.func g) fi ca)] 136]) (by simp) hsub hls hnd (Nat.le_of_ble_eq_true rfl) ?_ ?_ ?_
 ·exact ⟨rfl,trivial,rfl,trivial,trivial⟩
 ·exact ⟨⟨_,rfl,relL_vals _ [.func (.func g) fi ca],(by intro c hc;simp at hc;subst hc;trivial)⟩,trivial⟩
 ·have hlen:=hl.len
  (conv=>whnf)
  refine LoopP.of { α:=Nat,fr:=fun x=>[(0, .v (.slice a n c)),(1, .v (.func (.func 193) #[] #[bptr b])),(7, .v (I n)),(8, .v (I x))],H:=fun _=>[(0, .cells (.named b) [.val (.func (.func g) fi ca)] 136)],ok:=fun i _=>i≤l.length∧idxP p (l.drop i) i = idxP p l 0,m:=fun x=>l.length - x }
   0 (HeadP.of [] ⟨rfl,rfl,rfl,rfl,trivial⟩ ⟨rfl,trivial⟩) ⟨Nat.zero_le _,rfl⟩ (fun _=>⟨rfl,rfl⟩) (fun (i:Nat) G' hG hx=>W.mk ?_)
  obtain ⟨hi,hx⟩:=hx
  replace hl:=SlR.grow (G:=G) (G':=G') (fun _ _ h=>h) hl hG
  replace hj:=hJ _ _ hG hj
  (conv=>whnf)
  refine IteP.mk (fun hlt=>W.mk ?_) (fun hge=>W.mk ?_)<;>(conv=>whnf)
  ·have hlt:i < l.length:=by omega
   have hc:=hl.el hlt
   have hqi:=hq _ (List.getElem_mem hlt)
   rw [List.drop_eq_getElem_cons hlt,idxP] at hx
   repeat' (first | (refine ob ?_ ?_;(first | trivial | omega | (simp only [inR];omega) | exact ble (by rfl) | exact SlR.some ‹_› (by omega));(conv=>whnf)) | (first | (refine ra ‹_› (by rfl) ?_;(conv=>whnf)) | (refine rb ‹_› (by rfl) ?_;(conv=>whnf)) | (refine rc ‹_› (by rfl) ?_;(conv=>whnf)) | (refine rd ‹_› (by rfl) ?_;(conv=>whnf))))
   refine CallvP.fn _ (SoundFn.of body193 (not193 g fi ca p q J b hr)) (W.mk ?_)
   (conv=>whnf)
   refine StP.mk ⟨[(0,⟨b,false, .cells [.func (.func g) fi ca] 136⟩)],⟨⟨_,rfl,rfl⟩,trivial⟩,(by show ([0]:List Nat).Nodup;decide),⟨rfl,hj,l[i],rfl,hqi⟩,fun v ns G3 hg3 hpost=>W.mk ?_⟩
   obtain ⟨rfl,y,q1,rfl⟩:=hpost
   have hxy:=inj165 _ y (List.cons.inj q1).1
   subst hxy
   (conv=>whnf)
   refine ForkP.mk (fun hm=>W.mk ?_) (fun hm=>W.mk ?_)<;>(conv=>whnf)
   ·refine FinS.mk ⟨[],⟨.cells [.func (.func g) fi ca] 136,⟨_,rfl,rfl⟩,trivial,rfl,rfl⟩,rfl,_,l,rfl,⟨a,n,c,rfl,SlR.grow (G:=G') (G':=G3) (fun _ _ h=>h) hl hg3,hn⟩, ?_⟩
    rw [if_neg (by simpa using hm)] at hx
    show I (i:Int) = I (idxP p l 0);rw [← hx]
   ·(refine ob ?_ ?_;(first | trivial | omega | (simp only [inR];omega) | exact ble (by rfl) | exact SlR.some ‹_› (by omega));(conv=>whnf))
    rw [if_pos (by simpa using hm)] at hx
    exact RoundP.of (i + 1) (HeadP.of [] ⟨rfl,rfl,rfl,rfl,trivial⟩ ⟨rfl,trivial⟩) ⟨hlt,hx⟩ (by simp only;omega)
  ·have:i = l.length:=by omega
   subst this
   rw [List.drop_length] at hx
   refine FinS.mk ⟨[],⟨.cells [.func (.func g) fi ca] 136,⟨_,rfl,rfl⟩,trivial,rfl,rfl⟩,rfl,_,l,rfl,⟨a,n,c,rfl,hl,hn⟩, ?_⟩
   show I (-1) = I (idxP p l 0);rw [← hx];rfl
theorem con150 (g:FuncId) (fi ca:Array Value) (p:Int→Bool) (q:Int→Prop) (J:Hp→Prop) (b:Nat) (hJ:∀ G G',Grow G G'→J G→J G') (hr:SoundFn Try.prog (.func (.func g) fi ca) (TestS I p q J [])):Sound Try.prog 150 id (AllS intE (.func (.func 193) #[] #[bptr b]) (fun xs=>.bool (!(xs.all p))) q J [⟨b,false, .cells [.func (.func g) fi ca] 136⟩]):=by
 refine ⟨fun args ls v ns G G' hg h=>?_,fun args ls G Wd hsub hls hnd hpre=>?_⟩
 ·obtain ⟨h0,w,xs,h1,h2,h3⟩:=h;exact ⟨h0,w,xs,h1,h2.grow hg,h3⟩
 obtain ⟨rfl,hj,w,l,rfl,⟨a,n,c,rfl,hl,hn⟩,hq⟩:=hpre
 refine st_sound (Tab.cons 158 _ (idx158 g fi ca p q J b hJ hr) body158 (Tab.nil _)) comp150 (svs:=[.v (.slice a n c), .v (.func (.func 193) #[] #[bptr b])]) (obs:=[.cells (.named b) [.val (.func (.func g) fi ca)] 136]) (by simp) hsub hls hnd (Nat.le_of_ble_eq_true rfl) ?_ ?_ ?_
 ·exact ⟨rfl,trivial,rfl,trivial,trivial⟩
 ·exact ⟨⟨_,rfl,relL_vals _ [.func (.func g) fi ca],(by intro c hc;simp at hc;subst hc;trivial)⟩,trivial⟩
 ·(conv=>whnf)
  refine StP.mk ⟨[(0,⟨b,false, .cells [.func (.func g) fi ca] 136⟩)],⟨⟨_,rfl,rfl⟩,trivial⟩,(by show ([0]:List Nat).Nodup;decide),⟨rfl,hj,_,l,rfl,⟨a,n,c,rfl,hl,hn⟩,hq⟩,fun v ns G3 hg3 hpost=>W.mk ?_⟩
  obtain ⟨rfl,w',l',q1,q2,rfl⟩:=hpost
  simp only [List.cons.injEq,and_true] at q1
  subst q1
  have:l' = l:=q2.uniq (SlV.grow hg3 ⟨a,n,c,rfl,hl,hn⟩)
  subst this
  have hall:=idxP_all p l' 0
  (conv=>whnf)
  refine IteP.mk (fun hq=>W.mk ?_) (fun hq=>W.mk ?_)<;>(conv=>whnf)<;>refine FinS.mk ⟨[],⟨.cells [.func (.func g) fi ca] 136,⟨_,rfl,rfl⟩,trivial,rfl,rfl⟩,rfl,_,l',rfl,q2, ?_⟩<;>show Value.bool _ = Value.bool (!(l'.all p))<;>rw [← hall]<;>simp [*]
theorem all165 (g:FuncId) (fi ca:Array Value) (p:Int→Bool) (q:Int→Prop) (J:Hp→Prop) (hJ:∀ G G',Grow G G'→J G→J G') (hr:SoundFn Try.prog (.func (.func g) fi ca) (TestS I p q J [])):Sound Try.prog 165 id (AllS intE (.func (.func g) fi ca) (fun xs=>.bool (xs.all p)) q J []):=by
 refine ⟨fun args ls v ns G G' hg h=>?_,fun args ls G Wd hsub hls hnd hpre=>?_⟩
 ·obtain ⟨h0,w,xs,h1,h2,h3⟩:=h;exact ⟨h0,w,xs,h1,h2.grow hg,h3⟩
 obtain ⟨rfl,hj,w,l,rfl,⟨a,n,c,rfl,hl,hn⟩,hq⟩:=hpre
 refine st_sound (Tab.nil _) (at0 comp165) (svs:=[.v (.slice a n c), .v (.func (.func g) fi ca)]) (obs:=[]) (by simp) hsub hls hnd (Nat.le_of_ble_eq_true rfl) ?_ ?_ ?_
 ·exact ⟨rfl,trivial,rfl,trivial,trivial⟩
 ·exact trivial
 ·(conv=>whnf)
  refine NameP.mk (fun b=>W.mk ?_)
  (conv=>whnf)
  refine CallN.mk ⟨_,con150 g fi ca p q J b hJ hr,body150,W.mk ?_⟩
  (conv=>whnf)
  refine StP.mk ⟨[(0,⟨b,false, .cells [.func (.func g) fi ca] 136⟩)],⟨⟨_,rfl,rfl⟩,trivial⟩,(by show ([0]:List Nat).Nodup;decide),⟨rfl,hj,_,l,rfl,⟨a,n,c,rfl,hl,hn⟩,hq⟩,fun v ns G3 hg3 hpost=>W.mk ?_⟩
  obtain ⟨rfl,w',l',q1,q2,rfl⟩:=hpost
  simp only [List.cons.injEq,and_true] at q1
  subst q1
  have:l' = l:=q2.uniq (SlV.grow hg3 ⟨a,n,c,rfl,hl,hn⟩)
  subst this
  (conv=>whnf)
  refine ForkP.mk (fun hm=>W.mk ?_) (fun hm=>W.mk ?_)<;>(conv=>whnf)<;>refine FinS.mk ⟨[],rfl,rfl,_,l',rfl,q2, ?_⟩<;>(refine congrArg Value.bool ?_;simpa using hm)

/-! ### 169 -/
theorem inj169:∀ x y:(Int × ByteArray),(paVal) x = (paVal) y→x = y:=fun x y h=>by obtain ⟨_,_⟩:=x;obtain ⟨_,_⟩:=y;simp [paVal] at h;simp [h]
theorem not195 (g:FuncId) (fi ca:Array Value) (p:(Int × ByteArray)→Bool) (q:(Int × ByteArray)→Prop) (J:Hp→Prop) (b:Nat) (hr:SoundFn Try.prog (.func (.func g) fi ca) (TestS paVal p q J [])):Sound Try.prog 195 (fun a=>(#[]:Array Value).toList++a++(#[bptr b]:Array Value).toList) (TestS paVal (fun x=>!p x) q J [⟨b,false, .cells [.func (.func g) fi ca] 270⟩]):=by
 refine ⟨fun args ls v ns G G' hg h=>h,fun args ls G Wd hsub hls hnd hpre=>?_⟩
 obtain ⟨rfl,hj,x,rfl,hx⟩:=hpre
 refine st_sound (Tab.nil _) comp195 (svs:=[.agg [.val (I x.1), .val (.string x.2)], .c (.ptr 0 0)]) (obs:=[.cells (.named b) [.val (.func (.func g) fi ca)] 270]) (by simp) hsub hls hnd (Nat.le_of_ble_eq_true rfl) ?_ ?_ ?_
 ·exact ⟨⟨[I x.1, .string x.2],rfl,relL_vals _ [I x.1, .string x.2]⟩,(by intro c hc;simp at hc;rcases hc with rfl | rfl<;>trivial),⟨_,rfl,rfl⟩,(Nat.le_of_ble_eq_true rfl:0 < 1),trivial⟩
 ·exact ⟨⟨_,rfl,relL_vals _ [.func (.func g) fi ca],(by intro c hc;simp at hc;subst hc;trivial)⟩,trivial⟩
 ·(conv=>whnf)
  refine CallvP.fn _ hr (W.mk ?_)
  (conv=>whnf)
  refine StP.mk ⟨[],trivial,(by show ([]:List Nat).Nodup;decide),⟨rfl,hj,x,rfl,hx⟩,fun v ns G3 hg3 hpost=>W.mk ?_⟩
  obtain ⟨rfl,y,q1,rfl⟩:=hpost
  have hxy:=inj169 x y (List.cons.inj q1).1
  subst hxy
  (conv=>whnf)
  refine ForkP.mk (fun hm=>W.mk ?_) (fun hm=>W.mk ?_)<;>(conv=>whnf)<;>refine FinS.mk ⟨[],⟨.cells [.func (.func g) fi ca] 270,⟨_,rfl,rfl⟩,trivial,rfl,rfl⟩,rfl,x,rfl, ?_⟩<;>(show Value.bool _ = Value.bool (!p x);rw [hm];rfl)
theorem idx204 (g:FuncId) (fi ca:Array Value) (p:(Int × ByteArray)→Bool) (q:(Int × ByteArray)→Prop) (J:Hp→Prop) (b:Nat) (hJ:∀ G G',Grow G G'→J G→J G') (hr:SoundFn Try.prog (.func (.func g) fi ca) (TestS paVal p q J [])):Sound Try.prog 204 id (AllS paE (.func (.func 195) #[] #[bptr b]) (fun xs=>I (idxP p xs 0)) q J [⟨b,false, .cells [.func (.func g) fi ca] 270⟩]):=by
 refine ⟨fun args ls v ns G G' hg h=>?_,fun args ls G Wd hsub hls hnd hpre=>?_⟩
 ·obtain ⟨h0,w,xs,h1,h2,h3⟩:=h;exact ⟨h0,w,xs,h1,h2.grow hg,h3⟩
 obtain ⟨rfl,hj,w,l,rfl,⟨a,n,c,rfl,hl,hn⟩,hq⟩:=hpre
 refine st_sound (Tab.nil _) comp204 (svs:=[.v (.slice a n c), .v (.func (.func 195) #[] #[bptr b])]) (obs:=[.cells (.named b) [.val (.func (.func g) fi ca)] 270]) (by simp) hsub hls hnd (Nat.le_of_ble_eq_true rfl) ?_ ?_ ?_
 ·exact ⟨rfl,trivial,rfl,trivial,trivial⟩
 ·exact ⟨⟨_,rfl,relL_vals _ [.func (.func g) fi ca],(by intro c hc;simp at hc;subst hc;trivial)⟩,trivial⟩
 ·have hlen:=hl.len
  (conv=>whnf)
  refine LoopP.of { α:=Nat,fr:=fun x=>[(0, .v (.slice a n c)),(1, .v (.func (.func 195) #[] #[bptr b])),(7, .v (I n)),(8, .v (I x))],H:=fun _=>[(0, .cells (.named b) [.val (.func (.func g) fi ca)] 270)],ok:=fun i _=>i≤l.length∧idxP p (l.drop i) i = idxP p l 0,m:=fun x=>l.length - x }
   0 (HeadP.of [] ⟨rfl,rfl,rfl,rfl,trivial⟩ ⟨rfl,trivial⟩) ⟨Nat.zero_le _,rfl⟩ (fun _=>⟨rfl,rfl⟩) (fun (i:Nat) G' hG hx=>W.mk ?_)
  obtain ⟨hi,hx⟩:=hx
  replace hl:=SlR.grow (G:=G) (G':=G') (fun _ _ h=>h) hl hG
  replace hj:=hJ _ _ hG hj
  (conv=>whnf)
  refine IteP.mk (fun hlt=>W.mk ?_) (fun hge=>W.mk ?_)<;>(conv=>whnf)
  ·have hlt:i < l.length:=by omega
   have hc:=hl.el hlt
   have hqi:=hq _ (List.getElem_mem hlt)
   rw [List.drop_eq_getElem_cons hlt,idxP] at hx
   repeat' (first | (refine ob ?_ ?_;(first | trivial | omega | (simp only [inR];omega) | exact ble (by rfl) | exact SlR.some ‹_› (by omega));(conv=>whnf)) | (first | (refine ra ‹_› (by rfl) ?_;(conv=>whnf)) | (refine rb ‹_› (by rfl) ?_;(conv=>whnf)) | (refine rc ‹_› (by rfl) ?_;(conv=>whnf)) | (refine rd ‹_› (by rfl) ?_;(conv=>whnf))))
   refine CallvP.fn _ (SoundFn.of body195 (not195 g fi ca p q J b hr)) (W.mk ?_)
   (conv=>whnf)
   refine StP.mk ⟨[(0,⟨b,false, .cells [.func (.func g) fi ca] 270⟩)],⟨⟨_,rfl,rfl⟩,trivial⟩,(by show ([0]:List Nat).Nodup;decide),⟨rfl,hj,l[i],rfl,hqi⟩,fun v ns G3 hg3 hpost=>W.mk ?_⟩
   obtain ⟨rfl,y,q1,rfl⟩:=hpost
   have hxy:=inj169 _ y (List.cons.inj q1).1
   subst hxy
   (conv=>whnf)
   refine ForkP.mk (fun hm=>W.mk ?_) (fun hm=>W.mk ?_)<;>(conv=>whnf)
   ·refine FinS.mk ⟨[],⟨.cells [.func (.func g) fi ca] 270,⟨_,rfl,rfl⟩,trivial,rfl,rfl⟩,rfl,_,l,rfl,⟨a,n,c,rfl,SlR.grow (G:=G') (G':=G3) (fun _ _ h=>h) hl hg3,hn⟩, ?_⟩
    rw [if_neg (by simpa using hm)] at hx
    show I (i:Int) = I (idxP p l 0);rw [← hx]
   ·(refine ob ?_ ?_;(first | trivial | omega | (simp only [inR];omega) | exact ble (by rfl) | exact SlR.some ‹_› (by omega));(conv=>whnf))
    rw [if_pos (by simpa using hm)] at hx
    exact RoundP.of (i + 1) (HeadP.of [] ⟨rfl,rfl,rfl,rfl,trivial⟩ ⟨rfl,trivial⟩) ⟨hlt,hx⟩ (by simp only;omega)
  ·have:i = l.length:=by omega
   subst this
   rw [List.drop_length] at hx
   refine FinS.mk ⟨[],⟨.cells [.func (.func g) fi ca] 270,⟨_,rfl,rfl⟩,trivial,rfl,rfl⟩,rfl,_,l,rfl,⟨a,n,c,rfl,hl,hn⟩, ?_⟩
   show I (-1) = I (idxP p l 0);rw [← hx];rfl
theorem con194 (g:FuncId) (fi ca:Array Value) (p:(Int × ByteArray)→Bool) (q:(Int × ByteArray)→Prop) (J:Hp→Prop) (b:Nat) (hJ:∀ G G',Grow G G'→J G→J G') (hr:SoundFn Try.prog (.func (.func g) fi ca) (TestS paVal p q J [])):Sound Try.prog 194 id (AllS paE (.func (.func 195) #[] #[bptr b]) (fun xs=>.bool (!(xs.all p))) q J [⟨b,false, .cells [.func (.func g) fi ca] 270⟩]):=by
 refine ⟨fun args ls v ns G G' hg h=>?_,fun args ls G Wd hsub hls hnd hpre=>?_⟩
 ·obtain ⟨h0,w,xs,h1,h2,h3⟩:=h;exact ⟨h0,w,xs,h1,h2.grow hg,h3⟩
 obtain ⟨rfl,hj,w,l,rfl,⟨a,n,c,rfl,hl,hn⟩,hq⟩:=hpre
 refine st_sound (Tab.cons 204 _ (idx204 g fi ca p q J b hJ hr) body204 (Tab.nil _)) comp194 (svs:=[.v (.slice a n c), .v (.func (.func 195) #[] #[bptr b])]) (obs:=[.cells (.named b) [.val (.func (.func g) fi ca)] 270]) (by simp) hsub hls hnd (Nat.le_of_ble_eq_true rfl) ?_ ?_ ?_
 ·exact ⟨rfl,trivial,rfl,trivial,trivial⟩
 ·exact ⟨⟨_,rfl,relL_vals _ [.func (.func g) fi ca],(by intro c hc;simp at hc;subst hc;trivial)⟩,trivial⟩
 ·(conv=>whnf)
  refine StP.mk ⟨[(0,⟨b,false, .cells [.func (.func g) fi ca] 270⟩)],⟨⟨_,rfl,rfl⟩,trivial⟩,(by show ([0]:List Nat).Nodup;decide),⟨rfl,hj,_,l,rfl,⟨a,n,c,rfl,hl,hn⟩,hq⟩,fun v ns G3 hg3 hpost=>W.mk ?_⟩
  obtain ⟨rfl,w',l',q1,q2,rfl⟩:=hpost
  simp only [List.cons.injEq,and_true] at q1
  subst q1
  have:l' = l:=q2.uniq (SlV.grow hg3 ⟨a,n,c,rfl,hl,hn⟩)
  subst this
  have hall:=idxP_all p l' 0
  (conv=>whnf)
  refine IteP.mk (fun hq=>W.mk ?_) (fun hq=>W.mk ?_)<;>(conv=>whnf)<;>refine FinS.mk ⟨[],⟨.cells [.func (.func g) fi ca] 270,⟨_,rfl,rfl⟩,trivial,rfl,rfl⟩,rfl,_,l',rfl,q2, ?_⟩<;>show Value.bool _ = Value.bool (!(l'.all p))<;>rw [← hall]<;>simp [*]
theorem all169 (g:FuncId) (fi ca:Array Value) (p:(Int × ByteArray)→Bool) (q:(Int × ByteArray)→Prop) (J:Hp→Prop) (hJ:∀ G G',Grow G G'→J G→J G') (hr:SoundFn Try.prog (.func (.func g) fi ca) (TestS paVal p q J [])):Sound Try.prog 169 id (AllS paE (.func (.func g) fi ca) (fun xs=>.bool (xs.all p)) q J []):=by
 refine ⟨fun args ls v ns G G' hg h=>?_,fun args ls G Wd hsub hls hnd hpre=>?_⟩
 ·obtain ⟨h0,w,xs,h1,h2,h3⟩:=h;exact ⟨h0,w,xs,h1,h2.grow hg,h3⟩
 obtain ⟨rfl,hj,w,l,rfl,⟨a,n,c,rfl,hl,hn⟩,hq⟩:=hpre
 refine st_sound (Tab.nil _) (at0 comp169) (svs:=[.v (.slice a n c), .v (.func (.func g) fi ca)]) (obs:=[]) (by simp) hsub hls hnd (Nat.le_of_ble_eq_true rfl) ?_ ?_ ?_
 ·exact ⟨rfl,trivial,rfl,trivial,trivial⟩
 ·exact trivial
 ·(conv=>whnf)
  refine NameP.mk (fun b=>W.mk ?_)
  (conv=>whnf)
  refine CallN.mk ⟨_,con194 g fi ca p q J b hJ hr,body194,W.mk ?_⟩
  (conv=>whnf)
  refine StP.mk ⟨[(0,⟨b,false, .cells [.func (.func g) fi ca] 270⟩)],⟨⟨_,rfl,rfl⟩,trivial⟩,(by show ([0]:List Nat).Nodup;decide),⟨rfl,hj,_,l,rfl,⟨a,n,c,rfl,hl,hn⟩,hq⟩,fun v ns G3 hg3 hpost=>W.mk ?_⟩
  obtain ⟨rfl,w',l',q1,q2,rfl⟩:=hpost
  simp only [List.cons.injEq,and_true] at q1
  subst q1
  have:l' = l:=q2.uniq (SlV.grow hg3 ⟨a,n,c,rfl,hl,hn⟩)
  subst this
  (conv=>whnf)
  refine ForkP.mk (fun hm=>W.mk ?_) (fun hm=>W.mk ?_)<;>(conv=>whnf)<;>refine FinS.mk ⟨[],rfl,rfl,_,l',rfl,q2, ?_⟩<;>(refine congrArg Value.bool ?_;simpa using hm)

/-! ### 172 -/
theorem inj172:∀ x y:Int,(U) x = (U) y→x = y:=fun x y h=>by cases h;rfl
theorem not196 (g:FuncId) (fi ca:Array Value) (p:Int→Bool) (q:Int→Prop) (J:Hp→Prop) (b:Nat) (hr:SoundFn Try.prog (.func (.func g) fi ca) (TestS U p q J [])):Sound Try.prog 196 (fun a=>(#[]:Array Value).toList++a++(#[bptr b]:Array Value).toList) (TestS U (fun x=>!p x) q J [⟨b,false, .cells [.func (.func g) fi ca] 244⟩]):=by
 refine ⟨fun args ls v ns G G' hg h=>h,fun args ls G Wd hsub hls hnd hpre=>?_⟩
 obtain ⟨rfl,hj,x,rfl,hx⟩:=hpre
 refine st_sound (Tab.nil _) comp196 (svs:=[.v (U x), .c (.ptr 0 0)]) (obs:=[.cells (.named b) [.val (.func (.func g) fi ca)] 244]) (by simp) hsub hls hnd (Nat.le_of_ble_eq_true rfl) ?_ ?_ ?_
 ·exact ⟨rfl,trivial,⟨_,rfl,rfl⟩,(Nat.le_of_ble_eq_true rfl:0 < 1),trivial⟩
 ·exact ⟨⟨_,rfl,relL_vals _ [.func (.func g) fi ca],(by intro c hc;simp at hc;subst hc;trivial)⟩,trivial⟩
 ·(conv=>whnf)
  refine CallvP.fn _ hr (W.mk ?_)
  (conv=>whnf)
  refine StP.mk ⟨[],trivial,(by show ([]:List Nat).Nodup;decide),⟨rfl,hj,x,rfl,hx⟩,fun v ns G3 hg3 hpost=>W.mk ?_⟩
  obtain ⟨rfl,y,q1,rfl⟩:=hpost
  have hxy:=inj172 x y (List.cons.inj q1).1
  subst hxy
  (conv=>whnf)
  refine ForkP.mk (fun hm=>W.mk ?_) (fun hm=>W.mk ?_)<;>(conv=>whnf)<;>refine FinS.mk ⟨[],⟨.cells [.func (.func g) fi ca] 244,⟨_,rfl,rfl⟩,trivial,rfl,rfl⟩,rfl,x,rfl, ?_⟩<;>(show Value.bool _ = Value.bool (!p x);rw [hm];rfl)
theorem idx191 (g:FuncId) (fi ca:Array Value) (p:Int→Bool) (q:Int→Prop) (J:Hp→Prop) (b:Nat) (hJ:∀ G G',Grow G G'→J G→J G') (hr:SoundFn Try.prog (.func (.func g) fi ca) (TestS U p q J [])):Sound Try.prog 191 id (AllS u8E (.func (.func 196) #[] #[bptr b]) (fun xs=>I (idxP p xs 0)) q J [⟨b,false, .cells [.func (.func g) fi ca] 244⟩]):=by
 refine ⟨fun args ls v ns G G' hg h=>?_,fun args ls G Wd hsub hls hnd hpre=>?_⟩
 ·obtain ⟨h0,w,xs,h1,h2,h3⟩:=h;exact ⟨h0,w,xs,h1,h2.grow hg,h3⟩
 obtain ⟨rfl,hj,w,l,rfl,⟨a,n,c,rfl,hl,hn⟩,hq⟩:=hpre
 refine st_sound (Tab.nil _) comp191 (svs:=[.v (.slice a n c), .v (.func (.func 196) #[] #[bptr b])]) (obs:=[.cells (.named b) [.val (.func (.func g) fi ca)] 244]) (by simp) hsub hls hnd (Nat.le_of_ble_eq_true rfl) ?_ ?_ ?_
 ·exact ⟨rfl,trivial,rfl,trivial,trivial⟩
 ·exact ⟨⟨_,rfl,relL_vals _ [.func (.func g) fi ca],(by intro c hc;simp at hc;subst hc;trivial)⟩,trivial⟩
 ·have hlen:=hl.len
  (conv=>whnf)
  refine LoopP.of { α:=Nat,fr:=fun x=>[(0, .v (.slice a n c)),(1, .v (.func (.func 196) #[] #[bptr b])),(7, .v (I n)),(8, .v (I x))],H:=fun _=>[(0, .cells (.named b) [.val (.func (.func g) fi ca)] 244)],ok:=fun i _=>i≤l.length∧idxP p (l.drop i) i = idxP p l 0,m:=fun x=>l.length - x }
   0 (HeadP.of [] ⟨rfl,rfl,rfl,rfl,trivial⟩ ⟨rfl,trivial⟩) ⟨Nat.zero_le _,rfl⟩ (fun _=>⟨rfl,rfl⟩) (fun (i:Nat) G' hG hx=>W.mk ?_)
  obtain ⟨hi,hx⟩:=hx
  replace hl:=SlR.grow (G:=G) (G':=G') (fun _ _ h=>h) hl hG
  replace hj:=hJ _ _ hG hj
  (conv=>whnf)
  refine IteP.mk (fun hlt=>W.mk ?_) (fun hge=>W.mk ?_)<;>(conv=>whnf)
  ·have hlt:i < l.length:=by omega
   have hc:=hl.el hlt
   have hqi:=hq _ (List.getElem_mem hlt)
   rw [List.drop_eq_getElem_cons hlt,idxP] at hx
   repeat' (first | (refine ob ?_ ?_;(first | trivial | omega | (simp only [inR];omega) | exact ble (by rfl) | exact SlR.some ‹_› (by omega));(conv=>whnf)) | (first | (refine ra ‹_› (by rfl) ?_;(conv=>whnf)) | (refine rb ‹_› (by rfl) ?_;(conv=>whnf)) | (refine rc ‹_› (by rfl) ?_;(conv=>whnf)) | (refine rd ‹_› (by rfl) ?_;(conv=>whnf))))
   refine CallvP.fn _ (SoundFn.of body196 (not196 g fi ca p q J b hr)) (W.mk ?_)
   (conv=>whnf)
   refine StP.mk ⟨[(0,⟨b,false, .cells [.func (.func g) fi ca] 244⟩)],⟨⟨_,rfl,rfl⟩,trivial⟩,(by show ([0]:List Nat).Nodup;decide),⟨rfl,hj,l[i],rfl,hqi⟩,fun v ns G3 hg3 hpost=>W.mk ?_⟩
   obtain ⟨rfl,y,q1,rfl⟩:=hpost
   have hxy:=inj172 _ y (List.cons.inj q1).1
   subst hxy
   (conv=>whnf)
   refine ForkP.mk (fun hm=>W.mk ?_) (fun hm=>W.mk ?_)<;>(conv=>whnf)
   ·refine FinS.mk ⟨[],⟨.cells [.func (.func g) fi ca] 244,⟨_,rfl,rfl⟩,trivial,rfl,rfl⟩,rfl,_,l,rfl,⟨a,n,c,rfl,SlR.grow (G:=G') (G':=G3) (fun _ _ h=>h) hl hg3,hn⟩, ?_⟩
    rw [if_neg (by simpa using hm)] at hx
    show I (i:Int) = I (idxP p l 0);rw [← hx]
   ·(refine ob ?_ ?_;(first | trivial | omega | (simp only [inR];omega) | exact ble (by rfl) | exact SlR.some ‹_› (by omega));(conv=>whnf))
    rw [if_pos (by simpa using hm)] at hx
    exact RoundP.of (i + 1) (HeadP.of [] ⟨rfl,rfl,rfl,rfl,trivial⟩ ⟨rfl,trivial⟩) ⟨hlt,hx⟩ (by simp only;omega)
  ·have:i = l.length:=by omega
   subst this
   rw [List.drop_length] at hx
   refine FinS.mk ⟨[],⟨.cells [.func (.func g) fi ca] 244,⟨_,rfl,rfl⟩,trivial,rfl,rfl⟩,rfl,_,l,rfl,⟨a,n,c,rfl,hl,hn⟩, ?_⟩
   show I (-1) = I (idxP p l 0);rw [← hx];rfl
theorem con159 (g:FuncId) (fi ca:Array Value) (p:Int→Bool) (q:Int→Prop) (J:Hp→Prop) (b:Nat) (hJ:∀ G G',Grow G G'→J G→J G') (hr:SoundFn Try.prog (.func (.func g) fi ca) (TestS U p q J [])):Sound Try.prog 159 id (AllS u8E (.func (.func 196) #[] #[bptr b]) (fun xs=>.bool (!(xs.all p))) q J [⟨b,false, .cells [.func (.func g) fi ca] 244⟩]):=by
 refine ⟨fun args ls v ns G G' hg h=>?_,fun args ls G Wd hsub hls hnd hpre=>?_⟩
 ·obtain ⟨h0,w,xs,h1,h2,h3⟩:=h;exact ⟨h0,w,xs,h1,h2.grow hg,h3⟩
 obtain ⟨rfl,hj,w,l,rfl,⟨a,n,c,rfl,hl,hn⟩,hq⟩:=hpre
 refine st_sound (Tab.cons 191 _ (idx191 g fi ca p q J b hJ hr) body191 (Tab.nil _)) comp159 (svs:=[.v (.slice a n c), .v (.func (.func 196) #[] #[bptr b])]) (obs:=[.cells (.named b) [.val (.func (.func g) fi ca)] 244]) (by simp) hsub hls hnd (Nat.le_of_ble_eq_true rfl) ?_ ?_ ?_
 ·exact ⟨rfl,trivial,rfl,trivial,trivial⟩
 ·exact ⟨⟨_,rfl,relL_vals _ [.func (.func g) fi ca],(by intro c hc;simp at hc;subst hc;trivial)⟩,trivial⟩
 ·(conv=>whnf)
  refine StP.mk ⟨[(0,⟨b,false, .cells [.func (.func g) fi ca] 244⟩)],⟨⟨_,rfl,rfl⟩,trivial⟩,(by show ([0]:List Nat).Nodup;decide),⟨rfl,hj,_,l,rfl,⟨a,n,c,rfl,hl,hn⟩,hq⟩,fun v ns G3 hg3 hpost=>W.mk ?_⟩
  obtain ⟨rfl,w',l',q1,q2,rfl⟩:=hpost
  simp only [List.cons.injEq,and_true] at q1
  subst q1
  have:l' = l:=q2.uniq (SlV.grow hg3 ⟨a,n,c,rfl,hl,hn⟩)
  subst this
  have hall:=idxP_all p l' 0
  (conv=>whnf)
  refine IteP.mk (fun hq=>W.mk ?_) (fun hq=>W.mk ?_)<;>(conv=>whnf)<;>refine FinS.mk ⟨[],⟨.cells [.func (.func g) fi ca] 244,⟨_,rfl,rfl⟩,trivial,rfl,rfl⟩,rfl,_,l',rfl,q2, ?_⟩<;>show Value.bool _ = Value.bool (!(l'.all p))<;>rw [← hall]<;>simp [*]
theorem all172 (g:FuncId) (fi ca:Array Value) (p:Int→Bool) (q:Int→Prop) (J:Hp→Prop) (hJ:∀ G G',Grow G G'→J G→J G') (hr:SoundFn Try.prog (.func (.func g) fi ca) (TestS U p q J [])):Sound Try.prog 172 id (AllS u8E (.func (.func g) fi ca) (fun xs=>.bool (xs.all p)) q J []):=by
 refine ⟨fun args ls v ns G G' hg h=>?_,fun args ls G Wd hsub hls hnd hpre=>?_⟩
 ·obtain ⟨h0,w,xs,h1,h2,h3⟩:=h;exact ⟨h0,w,xs,h1,h2.grow hg,h3⟩
 obtain ⟨rfl,hj,w,l,rfl,⟨a,n,c,rfl,hl,hn⟩,hq⟩:=hpre
 refine st_sound (Tab.nil _) (at0 comp172) (svs:=[.v (.slice a n c), .v (.func (.func g) fi ca)]) (obs:=[]) (by simp) hsub hls hnd (Nat.le_of_ble_eq_true rfl) ?_ ?_ ?_
 ·exact ⟨rfl,trivial,rfl,trivial,trivial⟩
 ·exact trivial
 ·(conv=>whnf)
  refine NameP.mk (fun b=>W.mk ?_)
  (conv=>whnf)
  refine CallN.mk ⟨_,con159 g fi ca p q J b hJ hr,body159,W.mk ?_⟩
  (conv=>whnf)
  refine StP.mk ⟨[(0,⟨b,false, .cells [.func (.func g) fi ca] 244⟩)],⟨⟨_,rfl,rfl⟩,trivial⟩,(by show ([0]:List Nat).Nodup;decide),⟨rfl,hj,_,l,rfl,⟨a,n,c,rfl,hl,hn⟩,hq⟩,fun v ns G3 hg3 hpost=>W.mk ?_⟩
  obtain ⟨rfl,w',l',q1,q2,rfl⟩:=hpost
  simp only [List.cons.injEq,and_true] at q1
  subst q1
  have:l' = l:=q2.uniq (SlV.grow hg3 ⟨a,n,c,rfl,hl,hn⟩)
  subst this
  (conv=>whnf)
  refine ForkP.mk (fun hm=>W.mk ?_) (fun hm=>W.mk ?_)<;>(conv=>whnf)<;>refine FinS.mk ⟨[],rfl,rfl,_,l',rfl,q2, ?_⟩<;>(refine congrArg Value.bool ?_;simpa using hm)

/-! ### 92 -/
theorem inj92:∀ x y:Er,(erVal) x = (erVal) y→x = y:=fun x y h=>by cases x;cases y;simp [erVal] at h;simp [h]
theorem not134 (g:FuncId) (fi ca:Array Value) (p:Er→Bool) (q:Er→Prop) (J:Hp→Prop) (b:Nat) (hr:SoundFn Try.prog (.func (.func g) fi ca) (TestS erVal p q J [])):Sound Try.prog 134 (fun a=>(#[]:Array Value).toList++a++(#[bptr b]:Array Value).toList) (TestS erVal (fun x=>!p x) q J [⟨b,false, .cells [.func (.func g) fi ca] 214⟩]):=by
 refine ⟨fun args ls v ns G G' hg h=>h,fun args ls G Wd hsub hls hnd hpre=>?_⟩
 obtain ⟨rfl,hj,x,rfl,hx⟩:=hpre
 refine st_sound (Tab.nil _) comp134 (svs:=[.agg [.val (I x.num), .val (I x.day), .val (U x.kind), .val (I x.anc), .val (.string x.text), .val (I x.new)], .c (.ptr 0 0)]) (obs:=[.cells (.named b) [.val (.func (.func g) fi ca)] 214]) (by simp) hsub hls hnd (Nat.le_of_ble_eq_true rfl) ?_ ?_ ?_
 ·exact ⟨⟨[I x.num,I x.day,U x.kind,I x.anc, .string x.text,I x.new],rfl,relL_vals _ [I x.num,I x.day,U x.kind,I x.anc, .string x.text,I x.new]⟩,(by intro c hc;simp at hc;rcases hc with rfl | rfl | rfl | rfl | rfl | rfl<;>trivial),⟨_,rfl,rfl⟩,(Nat.le_of_ble_eq_true rfl:0 < 1),trivial⟩
 ·exact ⟨⟨_,rfl,relL_vals _ [.func (.func g) fi ca],(by intro c hc;simp at hc;subst hc;trivial)⟩,trivial⟩
 ·(conv=>whnf)
  refine CallvP.fn _ hr (W.mk ?_)
  (conv=>whnf)
  refine StP.mk ⟨[],trivial,(by show ([]:List Nat).Nodup;decide),⟨rfl,hj,x,rfl,hx⟩,fun v ns G3 hg3 hpost=>W.mk ?_⟩
  obtain ⟨rfl,y,q1,rfl⟩:=hpost
  have hxy:=inj92 x y (List.cons.inj q1).1
  subst hxy
  (conv=>whnf)
  refine ForkP.mk (fun hm=>W.mk ?_) (fun hm=>W.mk ?_)<;>(conv=>whnf)<;>refine FinS.mk ⟨[],⟨.cells [.func (.func g) fi ca] 214,⟨_,rfl,rfl⟩,trivial,rfl,rfl⟩,rfl,x,rfl, ?_⟩<;>(show Value.bool _ = Value.bool (!p x);rw [hm];rfl)
theorem idx171 (g:FuncId) (fi ca:Array Value) (p:Er→Bool) (q:Er→Prop) (J:Hp→Prop) (b:Nat) (hJ:∀ G G',Grow G G'→J G→J G') (hr:SoundFn Try.prog (.func (.func g) fi ca) (TestS erVal p q J [])):Sound Try.prog 171 id (AllS erE (.func (.func 134) #[] #[bptr b]) (fun xs=>I (idxP p xs 0)) q J [⟨b,false, .cells [.func (.func g) fi ca] 214⟩]):=by
 refine ⟨fun args ls v ns G G' hg h=>?_,fun args ls G Wd hsub hls hnd hpre=>?_⟩
 ·obtain ⟨h0,w,xs,h1,h2,h3⟩:=h;exact ⟨h0,w,xs,h1,h2.grow hg,h3⟩
 obtain ⟨rfl,hj,w,l,rfl,⟨a,n,c,rfl,hl,hn⟩,hq⟩:=hpre
 refine st_sound (Tab.nil _) comp171 (svs:=[.v (.slice a n c), .v (.func (.func 134) #[] #[bptr b])]) (obs:=[.cells (.named b) [.val (.func (.func g) fi ca)] 214]) (by simp) hsub hls hnd (Nat.le_of_ble_eq_true rfl) ?_ ?_ ?_
 ·exact ⟨rfl,trivial,rfl,trivial,trivial⟩
 ·exact ⟨⟨_,rfl,relL_vals _ [.func (.func g) fi ca],(by intro c hc;simp at hc;subst hc;trivial)⟩,trivial⟩
 ·have hlen:=hl.len
  (conv=>whnf)
  refine LoopP.of { α:=Nat,fr:=fun x=>[(0, .v (.slice a n c)),(1, .v (.func (.func 134) #[] #[bptr b])),(7, .v (I n)),(8, .v (I x))],H:=fun _=>[(0, .cells (.named b) [.val (.func (.func g) fi ca)] 214)],ok:=fun i _=>i≤l.length∧idxP p (l.drop i) i = idxP p l 0,m:=fun x=>l.length - x }
   0 (HeadP.of [] ⟨rfl,rfl,rfl,rfl,trivial⟩ ⟨rfl,trivial⟩) ⟨Nat.zero_le _,rfl⟩ (fun _=>⟨rfl,rfl⟩) (fun (i:Nat) G' hG hx=>W.mk ?_)
  obtain ⟨hi,hx⟩:=hx
  replace hl:=SlR.grow (G:=G) (G':=G') (fun _ _ h=>h) hl hG
  replace hj:=hJ _ _ hG hj
  (conv=>whnf)
  refine IteP.mk (fun hlt=>W.mk ?_) (fun hge=>W.mk ?_)<;>(conv=>whnf)
  ·have hlt:i < l.length:=by omega
   have hc:=hl.el hlt
   have hqi:=hq _ (List.getElem_mem hlt)
   rw [List.drop_eq_getElem_cons hlt,idxP] at hx
   repeat' (first | (refine ob ?_ ?_;(first | trivial | omega | (simp only [inR];omega) | exact ble (by rfl) | exact SlR.some ‹_› (by omega));(conv=>whnf)) | (first | (refine ra ‹_› (by rfl) ?_;(conv=>whnf)) | (refine rb ‹_› (by rfl) ?_;(conv=>whnf)) | (refine rc ‹_› (by rfl) ?_;(conv=>whnf)) | (refine rd ‹_› (by rfl) ?_;(conv=>whnf))))
   refine CallvP.fn _ (SoundFn.of body134 (not134 g fi ca p q J b hr)) (W.mk ?_)
   (conv=>whnf)
   refine StP.mk ⟨[(0,⟨b,false, .cells [.func (.func g) fi ca] 214⟩)],⟨⟨_,rfl,rfl⟩,trivial⟩,(by show ([0]:List Nat).Nodup;decide),⟨rfl,hj,l[i],rfl,hqi⟩,fun v ns G3 hg3 hpost=>W.mk ?_⟩
   obtain ⟨rfl,y,q1,rfl⟩:=hpost
   have hxy:=inj92 _ y (List.cons.inj q1).1
   subst hxy
   (conv=>whnf)
   refine ForkP.mk (fun hm=>W.mk ?_) (fun hm=>W.mk ?_)<;>(conv=>whnf)
   ·refine FinS.mk ⟨[],⟨.cells [.func (.func g) fi ca] 214,⟨_,rfl,rfl⟩,trivial,rfl,rfl⟩,rfl,_,l,rfl,⟨a,n,c,rfl,SlR.grow (G:=G') (G':=G3) (fun _ _ h=>h) hl hg3,hn⟩, ?_⟩
    rw [if_neg (by simpa using hm)] at hx
    show I (i:Int) = I (idxP p l 0);rw [← hx]
   ·(refine ob ?_ ?_;(first | trivial | omega | (simp only [inR];omega) | exact ble (by rfl) | exact SlR.some ‹_› (by omega));(conv=>whnf))
    rw [if_pos (by simpa using hm)] at hx
    exact RoundP.of (i + 1) (HeadP.of [] ⟨rfl,rfl,rfl,rfl,trivial⟩ ⟨rfl,trivial⟩) ⟨hlt,hx⟩ (by simp only;omega)
  ·have:i = l.length:=by omega
   subst this
   rw [List.drop_length] at hx
   refine FinS.mk ⟨[],⟨.cells [.func (.func g) fi ca] 214,⟨_,rfl,rfl⟩,trivial,rfl,rfl⟩,rfl,_,l,rfl,⟨a,n,c,rfl,hl,hn⟩, ?_⟩
   show I (-1) = I (idxP p l 0);rw [← hx];rfl
theorem con133 (g:FuncId) (fi ca:Array Value) (p:Er→Bool) (q:Er→Prop) (J:Hp→Prop) (b:Nat) (hJ:∀ G G',Grow G G'→J G→J G') (hr:SoundFn Try.prog (.func (.func g) fi ca) (TestS erVal p q J [])):Sound Try.prog 133 id (AllS erE (.func (.func 134) #[] #[bptr b]) (fun xs=>.bool (!(xs.all p))) q J [⟨b,false, .cells [.func (.func g) fi ca] 214⟩]):=by
 refine ⟨fun args ls v ns G G' hg h=>?_,fun args ls G Wd hsub hls hnd hpre=>?_⟩
 ·obtain ⟨h0,w,xs,h1,h2,h3⟩:=h;exact ⟨h0,w,xs,h1,h2.grow hg,h3⟩
 obtain ⟨rfl,hj,w,l,rfl,⟨a,n,c,rfl,hl,hn⟩,hq⟩:=hpre
 refine st_sound (Tab.cons 171 _ (idx171 g fi ca p q J b hJ hr) body171 (Tab.nil _)) comp133 (svs:=[.v (.slice a n c), .v (.func (.func 134) #[] #[bptr b])]) (obs:=[.cells (.named b) [.val (.func (.func g) fi ca)] 214]) (by simp) hsub hls hnd (Nat.le_of_ble_eq_true rfl) ?_ ?_ ?_
 ·exact ⟨rfl,trivial,rfl,trivial,trivial⟩
 ·exact ⟨⟨_,rfl,relL_vals _ [.func (.func g) fi ca],(by intro c hc;simp at hc;subst hc;trivial)⟩,trivial⟩
 ·(conv=>whnf)
  refine StP.mk ⟨[(0,⟨b,false, .cells [.func (.func g) fi ca] 214⟩)],⟨⟨_,rfl,rfl⟩,trivial⟩,(by show ([0]:List Nat).Nodup;decide),⟨rfl,hj,_,l,rfl,⟨a,n,c,rfl,hl,hn⟩,hq⟩,fun v ns G3 hg3 hpost=>W.mk ?_⟩
  obtain ⟨rfl,w',l',q1,q2,rfl⟩:=hpost
  simp only [List.cons.injEq,and_true] at q1
  subst q1
  have:l' = l:=q2.uniq (SlV.grow hg3 ⟨a,n,c,rfl,hl,hn⟩)
  subst this
  have hall:=idxP_all p l' 0
  (conv=>whnf)
  refine IteP.mk (fun hq=>W.mk ?_) (fun hq=>W.mk ?_)<;>(conv=>whnf)<;>refine FinS.mk ⟨[],⟨.cells [.func (.func g) fi ca] 214,⟨_,rfl,rfl⟩,trivial,rfl,rfl⟩,rfl,_,l',rfl,q2, ?_⟩<;>show Value.bool _ = Value.bool (!(l'.all p))<;>rw [← hall]<;>simp [*]
theorem all92 (g:FuncId) (fi ca:Array Value) (p:Er→Bool) (q:Er→Prop) (J:Hp→Prop) (hJ:∀ G G',Grow G G'→J G→J G') (hr:SoundFn Try.prog (.func (.func g) fi ca) (TestS erVal p q J [])):Sound Try.prog 92 id (AllS erE (.func (.func g) fi ca) (fun xs=>.bool (xs.all p)) q J []):=by
 refine ⟨fun args ls v ns G G' hg h=>?_,fun args ls G Wd hsub hls hnd hpre=>?_⟩
 ·obtain ⟨h0,w,xs,h1,h2,h3⟩:=h;exact ⟨h0,w,xs,h1,h2.grow hg,h3⟩
 obtain ⟨rfl,hj,w,l,rfl,⟨a,n,c,rfl,hl,hn⟩,hq⟩:=hpre
 refine st_sound (Tab.nil _) (at0 comp92) (svs:=[.v (.slice a n c), .v (.func (.func g) fi ca)]) (obs:=[]) (by simp) hsub hls hnd (Nat.le_of_ble_eq_true rfl) ?_ ?_ ?_
 ·exact ⟨rfl,trivial,rfl,trivial,trivial⟩
 ·exact trivial
 ·(conv=>whnf)
  refine NameP.mk (fun b=>W.mk ?_)
  (conv=>whnf)
  refine CallN.mk ⟨_,con133 g fi ca p q J b hJ hr,body133,W.mk ?_⟩
  (conv=>whnf)
  refine StP.mk ⟨[(0,⟨b,false, .cells [.func (.func g) fi ca] 214⟩)],⟨⟨_,rfl,rfl⟩,trivial⟩,(by show ([0]:List Nat).Nodup;decide),⟨rfl,hj,_,l,rfl,⟨a,n,c,rfl,hl,hn⟩,hq⟩,fun v ns G3 hg3 hpost=>W.mk ?_⟩
  obtain ⟨rfl,w',l',q1,q2,rfl⟩:=hpost
  simp only [List.cons.injEq,and_true] at q1
  subst q1
  have:l' = l:=q2.uniq (SlV.grow hg3 ⟨a,n,c,rfl,hl,hn⟩)
  subst this
  (conv=>whnf)
  refine ForkP.mk (fun hm=>W.mk ?_) (fun hm=>W.mk ?_)<;>(conv=>whnf)<;>refine FinS.mk ⟨[],rfl,rfl,_,l',rfl,q2, ?_⟩<;>(refine congrArg Value.bool ?_;simpa using hm)
end Go.Proofs.Ytefnikpoimaiiaa

namespace Go.Proofs.Ytefnikpoimaiiaa
open Go.Pal Go.RowKit
set_option maxRecDepth 100000
def SlU {α:Type} (e:El α) (G:Hp) (v:Value) (l:List α):Prop:=∃ a n c,v = .slice a n c∧SlR e.k e.R G a n c l∧n≤maxLen
theorem SlU.uniq {α:Type} {e:El α} {G:Hp} {v:Value} {x y:List α} (h:SlU e G v x) (h':SlU e G v y):x = y:=by
 obtain ⟨a,n,c,rfl,h,_⟩:=h
 obtain ⟨a',n',c',e',h',_⟩:=h'
 cases e'
 exact h.uniq (fun cs x y h1 h2=>e.inj (h1.symm.trans h2)) h'
theorem SlU.grow {α:Type} {e:El α} {G G':Hp} {v:Value} {x:List α} (hg:Grow G G') (h:SlU e G v x):SlU e G' v x:=by
 obtain ⟨a,n,c,rfl,h,hn⟩:=h
 exact ⟨a,n,c,rfl,SlR.grow (G:=G) (G':=G') (fun _ _ h=>h) h hg,hn⟩
theorem SlU.v {α:Type} {e:El α} {G:Hp} {v:Value} {x:List α} (h:SlU e G v x) (hb:x.length≤140737488355328):SlV e G v x:=by
 obtain ⟨a,n,c,rfl,h,_⟩:=h
 exact ⟨a,n,c,rfl,h,by rw [← h.len];exact hb⟩
def SuR (G:Hp) (cs:List Value) (w:Sn):Prop:=∃ h,cs = [h,I w.size]∧SlU intE G h w.marks
theorem SuR.uniq {G:Hp} {cs:List Value} {x y:Sn} (h:SuR G cs x) (h':SuR G cs y):x = y:=by
 obtain ⟨a,e,h1⟩:=h
 obtain ⟨b,e',h2⟩:=h'
 rw [e] at e'
 simp only [List.cons.injEq,Value.int.injEq,true_and,and_true] at e'
 obtain ⟨e1,e2⟩:=e'
 subst e1
 have:=h1.uniq h2
 cases x;cases y;simp_all
theorem SuR.grow {G G':Hp} (hg:Grow G G') {cs:List Value} {x:Sn} (h:SuR G cs x):SuR G' cs x:=by
 obtain ⟨a,e,h1⟩:=h
 exact ⟨a,e,h1.grow hg⟩
def SsU (G:Hp) (v:Value) (ws:List Sn):Prop:=∃ a n c,v = .slice a n c∧SlR 2 SuR G a n c ws∧n≤maxLen
def ssRd:Rd (List Sn):=⟨SsU,fun {_ _ x y} ⟨a,n,c,h,k1,_⟩ ⟨a',n',c',h',k2,_⟩=>by
  subst h
  cases h'
  exact SlR.uniq (fun cs x y h h'=>SuR.uniq h h') k1 k2,fun {_ _ _ _} hg ⟨a,n,c,e,h1,h2⟩=>⟨a,n,c,e,SlR.grow (fun _ _ h=>h.grow hg) h1 hg,h2⟩⟩
def snsRd:Rd (List Sn):=⟨SnsV,fun {_ _ x y} ⟨a,n,c,h,k1,_⟩ ⟨a',n',c',h',k2,_⟩=>by
  subst h
  cases h'
  exact SlR.uniq (fun cs x y h h'=>SnR.uniq h h') k1 k2,fun hg h=>h.grow hg⟩
theorem ref56:Sound Try.prog 56 id inS:=by
 refine comp56.fn (Tab.nil _) (fun args G h=>?_) (fun args G h=>?_)
 ·obtain ⟨n,lo,hi,rfl⟩:=h;simp
 ·obtain ⟨n,lo,hi,rfl⟩:=h
  (conv=>whnf)
  repeat' (first | (refine IteP.mk (fun _=>W.mk ?_) (fun _=>W.mk ?_)<;>(conv=>whnf)) | (refine ob ?_ ?_;(first | trivial | omega | (simp only [inR];omega) | exact ble (by rfl) | exact SlR.some ‹_› (by omega));(conv=>whnf)) | (refine ForkP.mk (fun _=>W.mk ?_) (fun _=>W.mk ?_)<;>(conv=>whnf)) | (refine ra ‹_› (by rfl) ?_;(conv=>whnf)) | (refine rb ‹_› (by rfl) ?_;(conv=>whnf)) | (refine rc ‹_› (by rfl) ?_;(conv=>whnf)) | (refine rd ‹_› (by rfl) ?_;(conv=>whnf)) | (refine FinP.mk ?_))
  all_goals (refine congrArg Value.bool ?_;simp [inF, *])
def risAt (l:List Int) (i:Nat):Bool:=decide (i = 0) || decide (l.getD (i - 1) 0 < l.getD i 0)
def risL (l:List Int):Bool:=(List.range l.length).all (risAt l)
theorem risL_true {l:List Int} (h:∀ i,i < l.length→risAt l i = true):risL l = true:=by
 simp only [risL,List.all_eq_true,List.mem_range];exact h
theorem risL_false {l:List Int} {i:Nat} (hi:i < l.length) (h:risAt l i = false):risL l = false:=by
 cases hr:risL l with
 | false=>rfl
 | true =>
  simp only [risL,List.all_eq_true,List.mem_range] at hr
  rw [hr i hi] at h;cases h
theorem gd0 {l:List Int} {k:Nat} (h:k < l.length):l.getD k 0 = l[k]:=by simp [h]
theorem ris57:Sound Try.prog 57 id (gsca (args1 (slRd intE) fun _=>True) fun l v=>v = .bool (risL l)):=by
 refine comp57.gsca (Tab.nil _) (fun args G s h=>?_) (fun args G l h=>?_)
 ·obtain ⟨v,rfl,_⟩:=h;simp
 ·obtain ⟨v,rfl,⟨a,n,c,rfl,hl,hn⟩,_⟩:=h
  have hlen:=hl.len
  (conv=>whnf)
  refine LoopP.of { α:=Nat × Unit,fr:=fun x=>[(0, .v (.slice a n c)),(3, .v (I (x.1 + 1)))],H:=fun _=>[],ok:=fun x _=>(x.1 + 1≤l.length∨x.1 = 0)∧∀ k,k≤x.1→risAt l k = true,m:=fun x=>l.length - x.1 }
   (0,()) (HeadP.of [] ⟨rfl,rfl,trivial⟩ trivial) ⟨.inr rfl,fun k hk=>by have:k = 0:=Nat.le_zero.1 hk;subst this;rfl⟩ (fun _=>⟨rfl,rfl⟩) (fun x G' hG hx=>W.mk ?_)
  obtain ⟨i,_⟩:=x
  obtain ⟨hi,hx⟩:=hx
  dsimp only at hi hx
  replace hl:=SlR.grow (G:=G) (G':=G') (fun _ _ h=>h) hl hG
  dsimp only
  (conv=>whnf)
  refine IteP.mk (fun hlt=>W.mk ?_) (fun hge=>W.mk ?_)<;>(conv=>whnf)
  ·have hlt:i + 1 < l.length:=by omega
   have hc:=hl.el hlt
   have hc0:=hl.el (i:=i) (by omega)
   have hra:risAt l (i + 1) = decide (l[i] < l[i + 1]):=by
    simp only [risAt,Nat.add_sub_cancel,gd0 hlt,gd0 (show i < l.length by omega)]
    simp
   generalize l[i + 1] = y at hc hra
   generalize l[i] = z at hc0 hra
   have hc1:CellsAt G' (ab a) (ao a + ((i:Int) + 1 - 1).toNat * 1) [I z]:=by
    rw [show ((i:Int) + 1 - 1).toNat = i by omega];exact hc0
   repeat' (first | (refine ob ?_ ?_;(first | trivial | omega | (simp only [inR];omega) | exact ble (by rfl) | exact SlR.some ‹_› (by omega));(conv=>whnf)) | (first | (refine ra ‹_› (by rfl) ?_;(conv=>whnf)) | (refine rb ‹_› (by rfl) ?_;(conv=>whnf)) | (refine rc ‹_› (by rfl) ?_;(conv=>whnf)) | (refine rd ‹_› (by rfl) ?_;(conv=>whnf))) | (refine OblP.mk ⟨by omega,by omega⟩ (W.mk ?_);(conv=>whnf)))
   refine IteP.mk (fun hq=>W.mk ?_) (fun hq=>W.mk ?_)<;>(conv=>whnf)
   ·refine FinP.mk ?_
    refine congrArg Value.bool ?_
    rw [risL_false hlt (by rw [hra];simp;omega)]
   ·(refine ob ?_ ?_;(first | trivial | omega | (simp only [inR];omega) | exact ble (by rfl) | exact SlR.some ‹_› (by omega));(conv=>whnf))
    refine RoundP.of (i + 1,()) (HeadP.of [] ⟨rfl,rfl,trivial⟩ trivial) ⟨.inl (by show i + 1 + 1≤l.length;omega),fun k hk=>?_⟩ (by simp only;omega)
    by_cases e:k = i + 1
    ·subst e;rw [hra];simp;omega
    ·exact hx k (by have:k≤i + 1:=hk;omega)
  ·refine FinP.mk ?_
   refine congrArg Value.bool ?_
   rw [risL_true fun k hk=>hx k (by omega)]
def fewS (w:Sn):Bool:=decide (w.marks.length≤15)
def fewF (ws:List Sn):Bool:=ws.all fewS && decide (ws.length≤22)
theorem few27:Sound Try.prog 27 id (gsca (fun args G ws=>∃ v,args = [v, .slice none 0 0]∧SsU G v ws) fun ws v=>v = .bool (fewF ws)):=by
 refine comp27.gsca (Tab.nil _) (fun args G s h=>?_) (fun args G ws h=>?_)
 ·obtain ⟨v,rfl,_⟩:=h;simp
 ·obtain ⟨v,rfl,a,n,c,rfl,hl,hn⟩:=h
  have hlen:=hl.len
  have hml:maxLen≤9223372036854775807:=by unfold maxLen;omega
  have hff:fewF ws = (ws.all fewS && decide (ws.length≤22)):=rfl
  (conv=>whnf)
  refine LoopP.of { α:=Nat × Unit,fr:=fun x=>[(0, .v (.slice a n c)),(1, .v (.slice none 0 0)),(5, .v (I x.1))],H:=fun _=>[],ok:=fun x _=>x.1≤ws.length∧(ws.drop x.1).all fewS = ws.all fewS,m:=fun x=>ws.length - x.1 }
   (0,()) (HeadP.of [] ⟨rfl,rfl,rfl,trivial⟩ trivial) ⟨Nat.zero_le _,rfl⟩ (fun _=>⟨rfl,rfl⟩) (fun x G1 hg1 hx=>W.mk ?_)
  obtain ⟨i,_⟩:=x
  obtain ⟨hi,hx⟩:=hx
  dsimp only at hi hx
  have hw3:SlR 2 SuR G1 a n c ws:=SlR.grow (fun _ _ h=>h.grow hg1) hl hg1
  dsimp only
  (conv=>whnf)
  refine IteP.mk (fun hlt=>W.mk ?_) (fun hge=>W.mk ?_)<;>(conv=>whnf)
  ·have hlt:i < ws.length:=by omega
   rw [List.drop_eq_getElem_cons hlt,List.all_cons] at hx
   obtain ⟨cs,_,hc,hd,rfl,ma,mn,mc,rfl,hm1,hm2⟩:=SlR.cells hw3 hlt
   have hml:=hm1.len
   have hlw:fewS ws[i] = decide (ws[i].marks.length≤15):=rfl
   generalize ws[i] = w at hx hc hm1 hml hlw
   repeat' (first | (refine ob ?_ ?_;(first | trivial | omega | (simp only [inR];omega) | exact ble (by rfl) | exact SlR.some ‹_› (by omega));(conv=>whnf)) | (first | (refine ra ‹_› (by rfl) ?_;(conv=>whnf)) | (refine rb ‹_› (by rfl) ?_;(conv=>whnf)) | (refine rc ‹_› (by rfl) ?_;(conv=>whnf)) | (refine rd ‹_› (by rfl) ?_;(conv=>whnf))))
   refine IteP.mk (fun h5=>W.mk ?_) (fun h5=>W.mk ?_)<;>(conv=>whnf)
   ·have h5:¬ w.marks.length≤15:=by omega
    refine FinP.mk ?_
    rw [hff, ← hx,hlw,decide_eq_false h5];rfl
   ·have h5:w.marks.length≤15:=by omega
    rw [hlw,decide_eq_true h5,Bool.true_and] at hx
    (refine ob ?_ ?_;(first | trivial | omega | (simp only [inR];omega) | exact ble (by rfl) | exact SlR.some ‹_› (by omega));(conv=>whnf))
    exact RoundP.of (i + 1,()) (HeadP.of [] ⟨rfl,rfl,rfl,trivial⟩ trivial) ⟨by show i + 1≤_;omega,hx⟩ (by simp only;omega)
  ·have:i = ws.length:=by omega
   subst this
   rw [List.drop_length] at hx
   have hx:true = ws.all fewS:=hx
   rw [← hx,Bool.true_and] at hff
   refine LoopP.of { α:=Nat × Unit,fr:=fun _=>[(0, .v (.slice a n c)),(1, .v (.slice none 0 0)),(6, .v (I 0))],H:=fun _=>[],ok:=fun _ _=>True,m:=fun _=>0 }
    (0,()) (HeadP.of [] ⟨rfl,rfl,rfl,trivial⟩ trivial) trivial (fun _=>⟨rfl,rfl⟩) (fun x G2 hg2 _=>W.mk ?_)
   dsimp only
   (conv=>whnf)
   refine IteP.mk (fun h=>absurd h (by decide)) (fun _=>W.mk ?_)
   (conv=>whnf)
   refine IteP.mk (fun h5=>W.mk ?_) (fun h5=>W.mk ?_)<;>(conv=>whnf)
   ·refine IteP.mk (fun _=>W.mk ?_) (fun h=>absurd (show (0:Int)≤22 by decide) h)
    (conv=>whnf)
    refine FinP.mk ?_
    rw [hff,decide_eq_true (by omega)];rfl
   ·refine FinP.mk ?_
    rw [hff,decide_eq_false (by omega)];rfl
theorem sn_raw {G:Hp} {a:Option Addr} {n c:Nat} {ws:List Sn} (h:SlR 2 SnR G a n c ws):∃ F:Nat→SnRaw,SlR 2 snE.R G a n c ((List.range n).map F)∧∀ i (hi:i < ws.length),SnR G (snE.f (F i)) ws[i]:=by
 have ex:∀ i, ∃ x:SnRaw, ∀ hi:i < ws.length,CellsAt G (ab a) (ao a + i * 2) (snE.f x)∧SnR G (snE.f x) ws[i]:=fun i=>by
  by_cases hi:i < ws.length
  ·obtain ⟨cs,_,h1,hd,rfl,a',n',c',rfl,h3,h4⟩:=h.at_ i hi
   exact ⟨(a',n',c',ws[i].size),fun _=>⟨h1,_,rfl,a',n',c',rfl,h3,h4⟩⟩
  ·exact ⟨(none,0,0,0),fun h=>absurd h hi⟩
 refine ⟨fun i=>Classical.choose (ex i),⟨by simp,h.cap,h.some,fun i hi=>?_⟩,fun i hi=>(Classical.choose_spec (ex i) hi).2⟩
 have hn:i < ws.length:=by rw [h.len];simpa using hi
 refine ⟨_,rfl,(Classical.choose_spec (ex i) hn).1, ?_⟩
 simp only [List.getElem_map,List.getElem_range]
 rfl
def longS (w:Sn):Bool:=decide (12 < w.marks.length)
def badM (m:Int):Bool:=!inF m 0 999
def badS (w:Sn):Bool:=w.marks.any badM || (!risL w.marks || !inF w.size 1 200)
def faultS (ws:List Sn):Int:=if 20 < ws.length then 3 else if ws.any longS then 3 else if ws.any badS then 1 else 0
set_option maxHeartbeats 1000000 in
theorem fault28:Sound Try.prog 28 id (gsca (fun args G ws=>∃ v,args = [v, .slice none 0 0]∧SnsV G v ws) fun ws v=>v = I (faultS ws)):=by
 refine comp28.gsca (Tab.cons 56 _ ref56 body56 (Tab.cons 57 _ ris57 body57 (Tab.nil _))) (fun args G s h=>?_) (fun args G ws h=>?_)
 ·obtain ⟨v,rfl,_⟩:=h;simp
 ·obtain ⟨v,rfl,a,n,c,rfl,hl,hn⟩:=h
  have hlen:=hl.len
  have hff:faultS ws = if 20 < ws.length then 3 else if ws.any longS then 3 else if ws.any badS then 1 else 0:=rfl
  obtain ⟨F,hF,hFR⟩:=sn_raw hl
  obtain ⟨e1,e2,e3⟩:=SlR.all (e:=snE) hF
  have hrow:Row snE ((List.range n).map F) n (((List.range n).map F).map snE.f).flatten:=Row.of_all _ (by simp)
  generalize hV:(((List.range n).map F).map snE.f).flatten = V at e1 e2 e3 hrow
  (conv=>whnf)
  refine IteP.mk (fun h20=>W.mk ?_) (fun h20=>W.mk ?_)<;>(conv=>whnf)
  ·refine FinP.mk ?_
   rw [hff,if_pos (by omega)];rfl
  refine IteP.mk (fun h=>absurd h (by decide)) (fun _=>W.mk ?_)
  (conv=>whnf)
  refine OblP.mk hl.some (W.mk ?_)
  (conv=>whnf)
  refine RdP.at e1 e2 (W.mk ?_)
  (conv=>whnf)
  refine OblP.mk e3 (W.mk ?_)
  (conv=>whnf)
  refine OblP.mk rfl (W.mk ?_)
  (conv=>whnf)
  refine OblP.mk (by omega) (W.mk ?_)
  (conv=>whnf)
  refine OblP.mk (fun h=>absurd rfl h) (W.mk ?_)
  (conv=>whnf)
  refine RdP.at (cs:=[]) (fun j v hj=>by simp at hj) rfl (W.mk ?_)
  (conv=>whnf)
  refine OblP.mk (fun u hu=>by simp at hu) (W.mk ?_)
  (conv=>whnf)
  refine OblP.mk rfl (W.mk ?_)
  (conv=>whnf)
  refine OblP.mk (by omega) (W.mk ?_)
  (conv=>whnf)
  obtain ⟨N,hN⟩:∃ N,N = 0 + n + 0:=⟨_,rfl⟩
  obtain ⟨V2,hV2⟩:∃ V2,V2 = []++V++([]:List Value):=⟨_,rfl⟩
  have hrow2:Row snE ((List.range n).map F) N V2:=by rw [hN,hV2];simpa using hrow
  have hRl:((List.range n).map F).length = n:=by simp
  have hget:∀ i (h:i < ((List.range n).map F).length),((List.range n).map F)[i] = F i:=fun i h=>by simp
  have hNn:N = n:=by omega
  clear hrow hV e1 e2 e3
  refine LoopP.of { α:=Nat × Unit,fr:=fun x=>[(5, .c (.row 14 N)),(6, .v (I x.1))],H:=fun _=>[(14, .row none N V2 99 2)],ok:=fun x _=>x.1≤ws.length∧(ws.drop x.1).any longS = ws.any longS,m:=fun x=>ws.length - x.1 }
   (0,()) (HeadP.of [] ⟨by rw [hN];rfl,rfl,trivial⟩ ⟨by rw [hN,hV2];rfl,trivial⟩) ⟨Nat.zero_le _,rfl⟩ (fun _=>⟨rfl,rfl⟩) (fun x G1 hg1 hx=>W.mk ?_)
  obtain ⟨i,_⟩:=x
  obtain ⟨hi,hx⟩:=hx
  dsimp only at hi hx
  dsimp only
  (conv=>whnf)
  refine IteP.mk (fun hlt=>W.mk ?_) (fun hge=>W.mk ?_)<;>(conv=>whnf)
  ·have hlt:i < ws.length:=by omega
   rw [List.drop_eq_getElem_cons hlt,List.any_cons] at hx
   obtain ⟨_,q1,ma,mn,mc,rfl,hm1,hm2⟩:=hFR i hlt
   have hml:=hm1.len
   have hlw:longS ws[i] = decide (12 < ws[i].marks.length):=rfl
   have hFi:snE.f (((List.range n).map F)[i]'(by omega)) = [.slice ma mn mc,I ws[i].size]:=by rw [hget];exact q1
   generalize ws[i] = w at hx hm1 hml hlw hFi
   have r0:(V2.drop (i * 2 + 0)).take 1 = [.slice ma mn mc]:=by
    have:=row_sub hrow2 (i:=i) (d:=0) (m:=1) (by omega) (by decide)
    rw [hFi] at this;exact this
   refine OblP.mk ⟨by omega,by omega⟩ (W.mk ?_)
   (conv=>whnf)
   refine OblP.mk rfl (W.mk ?_)
   (conv=>whnf)
   refine EqP.mk ⟨_,r0,rfl,W.mk ?_⟩
   (conv=>whnf)
   refine IteP.mk (fun h5=>W.mk ?_) (fun h5=>W.mk ?_)<;>(conv=>whnf)
   ·refine FinP.mk ?_
    rw [hff,if_neg (by omega), ← hx,hlw,decide_eq_true (by omega:12 < w.marks.length)];rfl
   ·rw [hlw,decide_eq_false (by omega:¬ 12 < w.marks.length),Bool.false_or] at hx
    (refine ob ?_ ?_;(first | trivial | omega | (simp only [inR];omega) | exact ble (by rfl) | exact SlR.some ‹_› (by omega));(conv=>whnf))
    exact RoundP.of (i + 1,()) (HeadP.of [] ⟨rfl,rfl,trivial⟩ ⟨rfl,trivial⟩) ⟨by show i + 1≤_;omega,hx⟩ (by simp only;omega)
  have hie:i = ws.length:=by omega
  subst hie
  rw [List.drop_length] at hx
  have hx:false = ws.any longS:=hx
  rw [if_neg (by omega), ← hx,if_neg (by decide)] at hff
  refine LoopP.of { α:=Nat × Unit,fr:=fun x=>[(5, .c (.row 14 N)),(7, .v (I x.1))],H:=fun _=>[(14, .row none N V2 99 2)],ok:=fun x _=>x.1≤ws.length∧(ws.drop x.1).any badS = ws.any badS,m:=fun x=>ws.length - x.1 }
   (0,()) (HeadP.of [] ⟨rfl,rfl,trivial⟩ ⟨rfl,trivial⟩) ⟨Nat.zero_le _,rfl⟩ (fun _=>⟨rfl,rfl⟩) (fun x G2 hg2 hx2=>W.mk ?_)
  obtain ⟨i,_⟩:=x
  obtain ⟨hi2,hx2⟩:=hx2
  dsimp only at hi2 hx2
  dsimp only
  (conv=>whnf)
  refine IteP.mk (fun hlt=>W.mk ?_) (fun hge=>W.mk ?_)<;>(conv=>whnf)
  ·have hlt:i < ws.length:=by omega
   rw [List.drop_eq_getElem_cons hlt,List.any_cons] at hx2
   obtain ⟨_,q1,ma,mn,mc,rfl,hm1,hm2⟩:=hFR i hlt
   have hml:=hm1.len
   have hlw:badS ws[i] = (ws[i].marks.any badM || (!risL ws[i].marks || !inF ws[i].size 1 200)):=rfl
   have hFi:snE.f (((List.range n).map F)[i]'(by omega)) = [.slice ma mn mc,I ws[i].size]:=by rw [hget];exact q1
   generalize ws[i] = w at hx2 hm1 hml hlw hFi
   have r0:(V2.drop (i * 2 + 0)).take 1 = [.slice ma mn mc]:=by
    have:=row_sub hrow2 (i:=i) (d:=0) (m:=1) (by omega) (by decide)
    rw [hFi] at this;exact this
   have r1:(V2.drop (i * 2 + 1)).take 1 = [I w.size]:=by
    have:=row_sub hrow2 (i:=i) (d:=1) (m:=1) (by omega) (by decide)
    rw [hFi] at this;exact this
   refine LoopP.of { α:=Nat × Unit,fr:=fun x=>[(5, .c (.row 14 N)),(7, .v (I i)),(8, .v (I x.1))],H:=fun _=>[(14, .row none N V2 99 2)],ok:=fun x _=>x.1≤w.marks.length∧(w.marks.drop x.1).any badM = w.marks.any badM,m:=fun x=>w.marks.length - x.1 }
    (0,()) (HeadP.of [] ⟨rfl,rfl,rfl,trivial⟩ ⟨rfl,trivial⟩) ⟨Nat.zero_le _,rfl⟩ (fun _=>⟨rfl,rfl⟩) (fun x G3 hg3 hx3=>W.mk ?_)
   obtain ⟨j,_⟩:=x
   obtain ⟨hj,hx3⟩:=hx3
   dsimp only at hj hx3
   have hm3:=SlR.grow (G:=G) (G':=G3) (fun _ _ h=>h) hm1 (hg1.trans (hg2.trans hg3))
   dsimp only
   (conv=>whnf)
   refine OblP.mk ⟨by omega,by omega⟩ (W.mk ?_)
   (conv=>whnf)
   refine OblP.mk rfl (W.mk ?_)
   (conv=>whnf)
   refine EqP.mk ⟨_,r0,rfl,W.mk ?_⟩
   (conv=>whnf)
   refine IteP.mk (fun hjl=>W.mk ?_) (fun hjg=>W.mk ?_)<;>(conv=>whnf)
   ·have hjl:j < w.marks.length:=by omega
    rw [List.drop_eq_getElem_cons hjl,List.any_cons] at hx3
    have hc:=hm3.el hjl
    have hbm:badM w.marks[j] = !inF w.marks[j] 0 999:=rfl
    generalize w.marks[j] = y at hx3 hc hbm
    refine OblP.mk ⟨by omega,by omega⟩ (W.mk ?_)
    (conv=>whnf)
    refine OblP.mk rfl (W.mk ?_)
    (conv=>whnf)
    refine EqP.mk ⟨_,r0,rfl,W.mk ?_⟩
    (conv=>whnf)
    repeat' (first | (refine ob ?_ ?_;(first | trivial | omega | (simp only [inR];omega) | exact ble (by rfl) | exact SlR.some ‹_› (by omega));(conv=>whnf)) | (first | (refine ra ‹_› (by rfl) ?_;(conv=>whnf)) | (refine rb ‹_› (by rfl) ?_;(conv=>whnf)) | (refine rc ‹_› (by rfl) ?_;(conv=>whnf)) | (refine rd ‹_› (by rfl) ?_;(conv=>whnf))))
    refine OblP.mk ⟨_,_,_,rfl⟩ (W.mk ?_)
    (conv=>whnf)
    refine ForkP.mk (fun hin=>W.mk ?_) (fun hin=>W.mk ?_)<;>(conv=>whnf)
    ·(refine ob ?_ ?_;(first | trivial | omega | (simp only [inR];omega) | exact ble (by rfl) | exact SlR.some ‹_› (by omega));(conv=>whnf))
     rw [hbm,hin] at hx3
     exact RoundP.of (j + 1,()) (HeadP.of [] ⟨rfl,rfl,rfl,trivial⟩ ⟨rfl,trivial⟩) ⟨by show j + 1≤_;omega,hx3⟩ (by simp only;omega)
    ·refine FinP.mk ?_
     rw [hbm,hin] at hx3
     rw [hff, ← hx2,hlw, ← hx3];rfl
   ·have hjl:j = w.marks.length:=by omega
    subst hjl
    rw [List.drop_length] at hx3
    have hx3:false = w.marks.any badM:=hx3
    rw [hlw, ← hx3,Bool.false_or] at hx2
    refine OblP.mk ⟨by omega,by omega⟩ (W.mk ?_)
    (conv=>whnf)
    refine OblP.mk rfl (W.mk ?_)
    (conv=>whnf)
    refine EqP.mk ⟨_,r0,rfl,W.mk ?_⟩
    (conv=>whnf)
    refine ScaP.g (ok1 (slRd intE) fun _=>True) (x:=w.marks) ⟨_,rfl,⟨_,_,_,rfl,hm3,hm2⟩,trivial⟩ (fun v hv=>W.mk ?_)
    subst hv
    (conv=>whnf)
    refine ForkP.mk (fun hri=>W.mk ?_) (fun hri=>W.mk ?_)<;>(conv=>whnf)
    ·refine OblP.mk ⟨by omega,by omega⟩ (W.mk ?_)
     (conv=>whnf)
     refine OblP.mk rfl (W.mk ?_)
     (conv=>whnf)
     refine EqP.mk ⟨_,r1,rfl,W.mk ?_⟩
     (conv=>whnf)
     refine OblP.mk ⟨_,_,_,rfl⟩ (W.mk ?_)
     (conv=>whnf)
     refine ForkP.mk (fun hin=>W.mk ?_) (fun hin=>W.mk ?_)<;>(conv=>whnf)
     ·(refine ob ?_ ?_;(first | trivial | omega | (simp only [inR];omega) | exact ble (by rfl) | exact SlR.some ‹_› (by omega));(conv=>whnf))
      rw [hri,hin] at hx2
      exact RoundP.of (i + 1,()) (HeadP.of [] ⟨rfl,rfl,trivial⟩ ⟨rfl,trivial⟩) ⟨by show i + 1≤_;omega,hx2⟩ (by simp only;omega)
     ·refine FinP.mk ?_
      rw [hri,hin] at hx2
      rw [hff, ← hx2];rfl
    ·refine FinP.mk ?_
     rw [hri] at hx2
     rw [hff, ← hx2];rfl
  have hie:i = ws.length:=by omega
  subst hie
  rw [List.drop_length] at hx2
  have hx2:false = ws.any badS:=hx2
  refine FinP.mk ?_
  rw [hff, ← hx2];rfl
theorem list61:Sound Try.prog 61 id (grel (args1 (slRd intE) fun l=>l.length≤8796093022207) fun l v G=>SlV intE G v l):=by
 refine comp61.grel (Tab.nil _) (ok1 _ _) (fun args G s h=>?_) (fun x v G G' hg h=>h.grow hg) (fun args G l h=>?_)
 ·obtain ⟨v,rfl,_⟩:=h;simp
 ·obtain ⟨v,rfl,⟨a,n,c,rfl,hl,hn⟩,hb⟩:=h
  have hlen:=hl.len
  obtain ⟨e1,e2,e3⟩:=hl.all
  (conv=>whnf)
  refine OblP.mk (fun h=>hl.some h) (W.mk ?_);(conv=>whnf)
  refine RdP.at e1 e2 (W.mk ?_);(conv=>whnf)
  refine OblP.mk e3 (W.mk ?_);(conv=>whnf)
  refine OblP.mk rfl (W.mk ?_);(conv=>whnf)
  refine OblP.mk (by omega) (W.mk ?_);(conv=>whnf)
  refine PubP.mk (fun a1 c1 G1 hg1 hp=>W.mk ?_)
  (conv=>whnf)
  refine FinP.mk ?_
  simp only [Nat.zero_add,List.nil_append] at hp ⊢
  exact (Row.of_all l hlen).pub hp (by omega)
structure SnB (ws:List Sn):Prop where
 n:ws.length≤1000
 m:∀ w∈ws,w.marks.length≤1000
theorem text31:Sound Try.prog 31 id (grel (args1 snsRd SnB) fun ws v G=>SnsV G v ws):=by
 refine comp31.grel (Tab.cons 61 _ list61 body61 (Tab.nil _)) (ok1 _ _) (fun args G s h=>?_) (fun x v G G' hg h=>h.grow hg) (fun args G ws h=>?_)
 ·obtain ⟨v,rfl,_⟩:=h;simp
 ·obtain ⟨v,rfl,⟨a,n,c,rfl,hl,hn⟩,hb⟩:=h
  have hlen:=hl.len
  have hbn:=hb.n
  (conv=>whnf)
  refine LoopP.of { α:=Nat × List SnRaw × List Value,fr:=fun y=>[(0, .v (.slice a n c)),(3, .c (.row 2 y.1)),(4, .v (I y.1))],H:=fun y=>[(2, .row none y.1 y.2.2 177 2)],ok:=fun y G=>y.1≤n∧Row snE y.2.1 y.1 y.2.2∧∀ i (h:i < y.2.1.length) (h2:i < ws.length),SnR G (snE.f y.2.1[i]) ws[i],m:=fun y=>n - y.1 }
   (0,[],[]) (HeadP.of [(2,none)] ⟨rfl,rfl,rfl,trivial⟩ ⟨rfl,trivial⟩) ⟨Nat.zero_le _,Row.nil,fun i h=>by simp at h⟩ (fun _=>⟨rfl,rfl⟩) (fun y G1 hg1 hx=>W.mk ?_)
  obtain ⟨i,L,vs⟩:=y
  obtain ⟨hi,hrow,hrd⟩:=hx
  dsimp only at hi hrow hrd
  have hLn:=hrow.n
  have hw3:SlR 2 SnR G1 a n c ws:=SlR.grow (fun _ _ h=>h.grow hg1) hl hg1
  dsimp only
  (conv=>whnf)
  refine IteP.mk (fun hlt=>W.mk ?_) (fun hge=>W.mk ?_)<;>(conv=>whnf)
  ·have hlt:i < ws.length:=by omega
   obtain ⟨cs,_,hc,hd,rfl,ma,mn,mc,rfl,hm1,hm2⟩:=SlR.cells hw3 hlt
   have hmb:=hb.m _ (List.getElem_mem hlt)
   generalize hwd:ws[i] = w at hc hm1 hmb
   repeat' (first | (refine ob ?_ ?_;(first | trivial | omega | (simp only [inR];omega) | exact ble (by rfl) | exact SlR.some ‹_› (by omega));(conv=>whnf)) | (first | (refine ra ‹_› (by rfl) ?_;(conv=>whnf)) | (refine rb ‹_› (by rfl) ?_;(conv=>whnf)) | (refine rc ‹_› (by rfl) ?_;(conv=>whnf)) | (refine rd ‹_› (by rfl) ?_;(conv=>whnf))))
   refine RelP.g (ok1 (slRd intE) fun l=>l.length≤8796093022207) (x:=w.marks) ⟨_,rfl,⟨_,_,_,rfl,hm1,hm2⟩,by omega⟩ (Grow.refl _) (fun v G2 hg2 hq=>W.mk ?_)
   obtain ⟨a1,n1,c1,rfl,_,_⟩:=id hq
   have hc2:=hc.grow hg2
   (conv=>whnf)
   repeat' (first | (refine ob ?_ ?_;(first | trivial | omega | (simp only [inR];omega) | exact ble (by rfl) | exact SlR.some ‹_› (by omega));(conv=>whnf)) | (first | (refine ra ‹_› (by rfl) ?_;(conv=>whnf)) | (refine rb ‹_› (by rfl) ?_;(conv=>whnf)) | (refine rc ‹_› (by rfl) ?_;(conv=>whnf)) | (refine rd ‹_› (by rfl) ?_;(conv=>whnf))))
   refine RoundP.of (i + 1,L++[(a1,n1,c1,w.size)],vs++[Value.slice a1 n1 c1,I w.size]) (HeadP.of [(2,some 21)] ⟨rfl,rfl,rfl,trivial⟩ ⟨rfl,trivial⟩) ⟨by show i + 1≤n;omega,hrow.snoc (a1,n1,c1,w.size),fun k k1 k2=>?_⟩ (by simp only;omega)
   dsimp only at k1 ⊢
   rw [List.getElem_append]
   split
   ·rename_i k3
    exact (hrd k k3 k2).grow hg2
   ·have hk:k = i:=by simp at k1;omega
    subst hk
    rw [hwd]
    simp only [List.getElem_singleton]
    exact ⟨_,rfl,hq⟩
  have hie:i = ws.length:=by omega
  subst hie
  (conv=>whnf)
  refine PubP.mk (fun a1 c1 G4 hg4 h4=>W.mk ?_)
  (conv=>whnf)
  refine FinP.mk ?_
  obtain ⟨_,_,_,q1,q2,q3⟩:=hrow.pub h4 (by omega)
  cases q1
  refine ⟨_,_,_,rfl,SlR.conv q2 (by rw [hLn]) fun i j1 j2 cs hcs=>?_,q3⟩
  have hcs:cs = snE.f _:=hcs
  subst hcs
  exact (hrd i j1 j2).grow hg4
end Go.Proofs.Ytefnikpoimaiiaa

namespace Go.Pal
open Go.RowKit

theorem Sound.first {P:Program} {f:FuncId} {pre:List Value→Hp→Prop} {post:List Value→Hp→Value→Prop} (w:Value) (h:Sound P f id (.sca pre post)) :
  Sound P f (fun a=>(#[w]:Array Value).toList++a++(#[]:Array Value).toList) (.sca (fun a G=>pre (w :: a) G) (fun a G v=>post (w :: a) G v)):=fun args G W hs hp=>by
 have:=h (w :: args) G W hs hp
 simpa using this
theorem Sound.bare {P:Program} {f:FuncId} {s:PSpec} (h:Sound P f id s):Sound P f (fun a=>(#[]:Array Value).toList++a++(#[]:Array Value).toList) s:=by
 have:(fun args:List Value=>(#[]:Array Value).toList++args++(#[]:Array Value).toList) = id:=by funext a;simp
 rw [this];exact h
/-! ### Maps -/
theorem keyFind_of' {P:Program} {k:TypeId} (L:Maps.Keyed P k) {x:Value} {lx:Lit} (hx:keyOf P k x = some lx) (hs:Instr.sameBits 10000 x x = true) {es:Array MapEntry} (hall:∀ e∈es.toList, ∃ l,keyOf P k e.key = some l) (hnd:(es.toList.map (·.key)).Nodup) :
  (KeyFind P k x es none∧∀ e∈es.toList,e.key≠x)∨∃ (j:Nat) (e:MapEntry),KeyFind P k x es (some j)∧es[j]? = some e∧e.key = x:=by
 by_cases hex:∃ e∈es.toList,e.key = x
 ·right
  obtain ⟨e,he,hk⟩:=hex
  obtain ⟨j,hj,hje⟩:=List.getElem_of_mem he
  have hj':es.toList[j]? = some e:=by rw [List.getElem?_eq_getElem hj,hje]
  refine ⟨j,e,⟨fun W em=>L.check W em hx,fun W=>?_,fun i hi=>?_⟩,by simpa using hj',hk⟩
  ·rcases L.find W hx es.toList hall with ⟨_,h2⟩ | ⟨i,e',h1,h2,h3⟩
   ·exact absurd hk (h2 e he)
   ·have k1:(es.toList.map (·.key))[i]? = some x:=by simp only [List.getElem?_map,h2,Option.map_some,h3]
    have k2:(es.toList.map (·.key))[j]? = some x:=by simp only [List.getElem?_map,hj',Option.map_some,hk]
    have l1:=(List.getElem?_eq_some_iff.1 k1).1
    have:i = j:=(List.getElem?_inj l1 hnd).1 (k1.trans k2.symm)
    subst this
    rw [h1]
    have h2':es[i]? = some e':=by simpa using h2
    simp [mapAt,h2']
  ·cases hi
   have hj'':es[j]? = some e:=by simpa using hj'
   simp only [hj'',Option.map_some,Option.getD_some,hk];exact hs
 ·left
  have hno:∀ e∈es.toList,e.key≠x:=fun e he hk=>hex ⟨e,he,hk⟩
  refine ⟨⟨fun W em=>L.check W em hx,fun W=>?_,fun i hi=>by cases hi⟩,hno⟩
  rcases L.find W hx es.toList hall with ⟨h1,_⟩ | ⟨i,e',h1,h2,h3⟩
  ·exact h1
  ·exact absurd h3 (hno e' (List.mem_of_getElem? h2))
structure MapIs {κ:Type} (P:Program) (k:TypeId) (val:κ→Value) (es:Array MapEntry) (m:κ→Option Value):Prop where
 ex:∃ D:List (κ × Value),es.toList.map (fun e=>(e.key,e.val)) = D.map (fun p=>(val p.1,p.2))∧(∀ p∈D, ∃ l,keyOf P k (val p.1) = some l)∧(D.map (·.1)).Nodup∧(∀ p∈D,m p.1 = some p.2)∧∀ x,(∀ p∈D,p.1≠x)→m x = none
theorem MapIs.nil {κ:Type} {P:Program} {k:TypeId} {val:κ→Value}:MapIs P k val #[] (fun _=>none):=⟨[],rfl,(fun p h=>by cases h),List.nodup_nil,(fun p h=>by cases h),fun _ _=>rfl⟩
def lookD (z:Value) (ok:Bool):Option Value→Value
 | some v=>match ok with
  | true=>.tuple #[v, .bool true]
  | false=>v
 | none=>match ok with
  | true=>.tuple #[z, .bool false]
  | false=>z
theorem MapIs.find {κ:Type} [DecidableEq κ] {P:Program} {k:TypeId} {val:κ→Value} (L:Maps.Keyed P k) (hinj:∀ x y,val x = val y→x = y) {es:Array MapEntry} {m:κ→Option Value} (h:MapIs P k val es m) {x:κ} {lx:Lit} (hx:keyOf P k (val x) = some lx) (hs:Instr.sameBits 10000 (val x) (val x) = true) :
  ∃ r,KeyFind P k (val x) es r∧(∀ z ok,lookV z ok es r = lookD z ok (m x))∧∀ c v,MapIs P k val (putE es c (val x) v r).1 (fun y=>if y = x then some v else m y):=by
 obtain ⟨D,h1,h2,h3,h4,h5⟩:=h.ex
 have hmem:∀ e∈es.toList, ∃ p∈D,e.key = val p.1∧e.val = p.2:=fun e he=>by
  have:(e.key,e.val)∈es.toList.map (fun e=>(e.key,e.val)):=List.mem_map.2 ⟨e,he,rfl⟩
  rw [h1] at this
  obtain ⟨p,hp,e1⟩:=List.mem_map.1 this
  simp only [Prod.mk.injEq] at e1
  exact ⟨p,hp,e1.1.symm,e1.2.symm⟩
 have hkeys:es.toList.map (·.key) = D.map fun p=>val p.1:=by
  have:=congrArg (List.map Prod.fst) h1
  simpa [List.map_map,Function.comp_def] using this
 have hnd:(es.toList.map (·.key)).Nodup:=by
  rw [hkeys]
  have:(D.map fun p=>val p.1) = (D.map (·.1)).map val:=by simp [List.map_map,Function.comp_def]
  rw [this]
  exact h3.map _ (fun a b hab e=>hab (hinj _ _ e))
 have hall:∀ e∈es.toList, ∃ l,keyOf P k e.key = some l:=fun e he=>by
  obtain ⟨p,hp,e1,_⟩:=hmem e he
  rw [e1];exact h2 p hp
 rcases keyFind_of' L hx hs hall hnd with ⟨k1,k2⟩ | ⟨j,e,k1,k2,k3⟩
 ·have hno:∀ p∈D,p.1≠x:=fun p hp e=>by
   have:val p.1∈es.toList.map (·.key):=by rw [hkeys];exact List.mem_map.2 ⟨p,hp,rfl⟩
   obtain ⟨e',he',e1⟩:=List.mem_map.1 this
   exact k2 e' he' (by rw [e1,e])
  have hn:=h5 x hno
  refine ⟨none,k1,fun z ok=>by rw [hn];cases ok<;>rfl,fun c v=>⟨D++[(x,v)], ?_,fun p hp=>?_, ?_,fun p hp=>?_,fun y hy=>?_⟩⟩
  ·simp only [putE,Array.toList_push,List.map_append,h1,List.map_cons,List.map_nil]
  ·rcases List.mem_append.1 hp with hp | hp
   ·exact h2 p hp
   ·simp at hp;subst hp;exact ⟨_,hx⟩
  ·simp only [List.map_append,List.map_cons,List.map_nil]
   rw [List.nodup_append]
   refine ⟨h3,by simp,fun a ha b hb=>?_⟩
   simp at hb;subst hb
   obtain ⟨p,hp,rfl⟩:=List.mem_map.1 ha
   exact hno p hp
  ·rcases List.mem_append.1 hp with hp | hp
   ·rw [if_neg (hno p hp)];exact h4 p hp
   ·simp at hp;subst hp;simp
  ·have hyx:y≠x:=fun e=>hy (x,v) (by simp) e.symm
   rw [if_neg hyx]
   exact h5 y fun p hp=>hy p (by simp [hp])
 ·have k2':es.toList[j]? = some e:=by simpa using k2
  have hj:D[j]? = some (x,e.val):=by
   have:=congrArg (·[j]?) h1
   simp only [List.getElem?_map,k2',Option.map_some] at this
   cases hd:D[j]? with
   | none=>rw [hd] at this;cases this
   | some p =>
    rw [hd] at this
    simp only [Option.map_some,Option.some.injEq,Prod.mk.injEq] at this
    have e1:p.1 = x:=hinj _ _ (by rw [← this.1,k3])
    rw [show p = (p.1,p.2) from rfl,e1, ← this.2]
  have hm:=h4 _ (List.mem_of_getElem? hj)
  refine ⟨some j,k1,fun z ok=>by rw [hm];cases ok<;>simp [lookV,lookD,mapAt,k2],fun c v=>⟨D.set j (x,v), ?_,fun p hp=>?_, ?_,fun p hp=>?_,fun y hy=>?_⟩⟩
  ·apply List.ext_getElem?
   intro i
   have hi:=congrArg (·[i]?) h1
   simp only [List.getElem?_map] at hi
   simp only [putE,List.getElem?_map,Array.getElem?_toList,Array.getElem?_modify,List.getElem?_set]
   by_cases hij:j = i
   ·subst hij
    have hlt:j < D.length:=(List.getElem?_eq_some_iff.1 hj).1
    simp [k2,hlt]
   ·rw [if_neg hij,if_neg hij]
    rw [← hi];simp
  ·rcases List.mem_or_eq_of_mem_set hp with hp | rfl
   ·exact h2 p hp
   ·exact ⟨_,hx⟩
  ·have:(D.set j (x,v)).map (·.1) = D.map (·.1):=by
    rw [List.map_set]
    apply List.ext_getElem?
    intro i
    rw [List.getElem?_set]
    split
    ·rename_i hij
     subst hij
     simp only [List.getElem?_map,hj,Option.map_some,List.length_map]
     rw [if_pos (List.getElem?_eq_some_iff.1 hj).1]
    ·rfl
   rw [this];exact h3
  ·obtain ⟨i,hi⟩:=List.getElem?_of_mem hp
   rw [List.getElem?_set] at hi
   split at hi
   ·split at hi
    ·cases hi;simp
    ·cases hi
   ·rename_i hij
    have hpx:p.1≠x:=fun e=>by
     have q1:(D.map (·.1))[i]? = some x:=by simp [hi,e]
     have q2:(D.map (·.1))[j]? = some x:=by simp [hj]
     exact hij ((List.getElem?_inj (List.getElem?_eq_some_iff.1 q2).1 h3).1 (q2.trans q1.symm))
    rw [if_neg hpx]
    exact h4 p (List.mem_of_getElem? hi)
  ·have hyx:y≠x:=fun e=>hy (x,v) (List.mem_of_getElem? (by rw [List.getElem?_set,if_pos rfl,if_pos (List.getElem?_eq_some_iff.1 hj).1])) e.symm
   rw [if_neg hyx]
   refine h5 y fun p hp e=>?_
   obtain ⟨i,hi⟩:=List.getElem?_of_mem hp
   by_cases hij:j = i
   ·subst hij;rw [hj] at hi;cases hi;exact hyx e.symm
   ·exact hy p (List.mem_of_getElem? (by rw [List.getElem?_set,if_neg hij];exact hi)) e
def ISet (P:Program) (k:TypeId) (es:Array MapEntry) (s:Int→Bool):Prop:=MapIs P k I es (fun x=>if s x then some (.bool true) else none)
theorem wf_i64' {a:Int} (h:inR .i64 a):(Lit.int .i64 a).wf = true:=by
 simp only [inR] at h
 simp only [Lit.wf,Bool.and_eq_true,decide_eq_true_eq]
 exact h
theorem ISet.nil {P:Program} {k:TypeId}:ISet P k #[] (fun _=>false):=MapIs.nil
theorem ISet.find {P:Program} {k:TypeId} (hk:P.underlying k = some (.int .i64)) {es:Array MapEntry} {s:Int→Bool} (h:ISet P k es s) {x:Int} (hx:inR .i64 x) :
  ∃ r,KeyFind P k (I x) es r∧lookV (.bool false) false es r = .bool (s x)∧∀ c,ISet P k (putE es c (I x) (.bool true) r).1 (fun y=>s y || decide (y = x)):=by
 obtain ⟨r,h1,h2,h3⟩:=MapIs.find (Maps.int_keyed hk) (fun x y e=>by cases e;rfl) h (Maps.keyOf_int_mk hk (wf_i64' hx)) (by simp [Instr.sameBits])
 refine ⟨r,h1, ?_,fun c=>?_⟩
 ·rw [h2];cases s x<;>rfl
 ·have:=h3 c (.bool true)
  unfold ISet
  have e:(fun y=>if (s y || decide (y = x)) = true then some (Value.bool true) else none) = fun y=>if y = x then some (Value.bool true) else if s y then some (Value.bool true) else none:=by
   funext y
   by_cases hy:y = x<;>simp [hy]
  rw [e];exact this
end Go.Pal

namespace Go.Proofs.Ytefnikpoimaiiaa
open Go.Pal Go.RowKit
set_option maxRecDepth 100000
theorem TestS.of {α:Type} {val:α→Value} {p:α→Bool} {q:α→Prop} {J:Hp→Prop} {f:FuncId} {sh:List Value→List Value} {pre:List Value→Hp→Prop} {post:List Value→Hp→Value→Prop} (h:Sound Try.prog f sh (.sca pre post)) (h1:∀ x G,q x→J G→pre [val x] G) (h2:∀ x G v,q x→J G→post [val x] G v→v = .bool (p x)):Sound Try.prog f sh (TestS val p q J []):=by
 refine ⟨fun _ _ _ _ _ _ _ h=>h,fun args ls G W hs _ _ hp=>?_⟩
 obtain ⟨rfl,hj,x,rfl,hx⟩:=hp
 refine (h [val x] G W hs (h1 x G hx hj)).mono ?_
 rintro e W' ⟨v,rfl,hv,hB⟩
 exact ⟨v,[],G,rfl,⟨rfl,x,rfl,h2 x G v hx hj hv⟩,rfl,Grow.refl _,fun b o e=>by
  have h1:=hs b o e
  rw [hB.block b (Array.getElem?_eq_some_iff.1 h1).1];exact h1,fun b o e=>.inl e,below_beneath hB⟩
theorem beneath0 {W W':World} (h:Beneath ⟨W,lentW [],[]⟩ W'):Below W.heap.size W W':=⟨h.os,h.tape,h.output,h.size,fun k hk=>h.block k hk (fun ⟨_,hx,_⟩=>by cases hx)⟩
theorem allT {α:Type} {e:El α} {A:FuncId} {right:Value} {q:α→Prop} {J:Hp→Prop} (h:Sound Try.prog A id (AllS e right (fun xs=>.bool (xs.all fun _=>true)) q J [])) (xs:List α):Sound Try.prog A id (.sca (fun args G=>J G∧∃ w,args = [w,right]∧SlV e G w xs∧∀ x∈xs,q x) fun _ _ v=>v = .bool true):=fun args G W hs ⟨hj,w,ha,hv,hq⟩=>by
 refine (h.2 args [] G W hs (fun x hx=>by cases hx) (by simp) ⟨rfl,hj,w,xs,ha,hv,hq⟩).mono ?_
 rintro en W' ⟨v,ns,G',rfl,⟨rfl,w',xs',_,_,h2⟩,_,_,_,_,hB⟩
 exact ⟨v,rfl,by rw [h2];simp,beneath0 hB⟩
theorem in167:Sound Try.prog 167 id inS:=by
 refine comp167.fn (Tab.nil _) (fun args G h=>?_) (fun args G h=>?_)
 ·obtain ⟨n,lo,hi,rfl⟩:=h;simp
 ·obtain ⟨n,lo,hi,rfl⟩:=h
  (conv=>whnf)
  repeat' (first | (refine IteP.mk (fun _=>W.mk ?_) (fun _=>W.mk ?_)<;>(conv=>whnf)) | (refine ob ?_ ?_;(first | trivial | omega | (simp only [inR];omega) | exact ble (by rfl) | exact SlR.some ‹_› (by omega));(conv=>whnf)) | (refine ForkP.mk (fun _=>W.mk ?_) (fun _=>W.mk ?_)<;>(conv=>whnf)) | (refine ra ‹_› (by rfl) ?_;(conv=>whnf)) | (refine rb ‹_› (by rfl) ?_;(conv=>whnf)) | (refine rc ‹_› (by rfl) ?_;(conv=>whnf)) | (refine rd ‹_› (by rfl) ?_;(conv=>whnf)) | (refine FinP.mk ?_))
  all_goals (refine congrArg Value.bool ?_;simp [inF, *])
theorem ris164:Sound Try.prog 164 id (gsca (args1 (slRd intE) fun l=>risL l = true) fun _ v=>v = .bool true):=by
 refine comp164.gsca (Tab.nil _) (fun args G s h=>?_) (fun args G l h=>?_)
 ·obtain ⟨v,rfl,_⟩:=h;simp
 ·obtain ⟨v,rfl,⟨a,n,c,rfl,hl,hn⟩,hr⟩:=h
  have hlen:=hl.len
  have hr:∀ k,k < l.length→risAt l k = true:=fun k hk=>by
   simp only [risL,List.all_eq_true,List.mem_range] at hr
   exact hr k hk
  (conv=>whnf)
  refine LoopP.of { α:=Nat × Unit,fr:=fun x=>[(0, .v (.slice a n c)),(5, .v (I n)),(6, .v (I x.1))],H:=fun _=>[],ok:=fun x _=>x.1≤l.length,m:=fun x=>l.length - x.1 }
   (0,()) (HeadP.of [] ⟨rfl,rfl,rfl,trivial⟩ trivial) (Nat.zero_le _) (fun _=>⟨rfl,rfl⟩) (fun x G' hG hx=>W.mk ?_)
  obtain ⟨i,_⟩:=x
  have hi:i≤l.length:=hx
  replace hl:=SlR.grow (G:=G) (G':=G') (fun _ _ h=>h) hl hG
  dsimp only
  (conv=>whnf)
  refine IteP.mk (fun hlt=>W.mk ?_) (fun hge=>W.mk ?_)<;>(conv=>whnf)
  ·have hlt:i < l.length:=by omega
   refine IteP.mk (fun h0=>W.mk ?_) (fun h0=>W.mk ?_)<;>(conv=>whnf)
   ·have hc:=hl.el hlt
    have hc0:=hl.el (i:=i - 1) (by omega)
    have hra:l[i - 1] < l[i]:=by
     have:=hr i hlt
     simp only [risAt,gd0 hlt,gd0 (show i - 1 < l.length by omega),Bool.or_eq_true,decide_eq_true_eq] at this
     omega
    generalize l[i] = y at hc hra
    generalize l[i - 1] = z at hc0 hra
    have hc1:CellsAt G' (ab a) (ao a + ((i:Int) - 1).toNat * 1) [I z]:=by
     rw [show ((i:Int) - 1).toNat = i - 1 by omega];exact hc0
    repeat' (first | (refine ob ?_ ?_;(first | trivial | omega | (simp only [inR];omega) | exact ble (by rfl) | exact SlR.some ‹_› (by omega));(conv=>whnf)) | (first | (refine ra ‹_› (by rfl) ?_;(conv=>whnf)) | (refine rb ‹_› (by rfl) ?_;(conv=>whnf)) | (refine rc ‹_› (by rfl) ?_;(conv=>whnf)) | (refine rd ‹_› (by rfl) ?_;(conv=>whnf))) | (refine OblP.mk ⟨by omega,by omega⟩ (W.mk ?_);(conv=>whnf)))
    refine IteP.mk (fun hq=>absurd hq (by omega)) (fun hq=>W.mk ?_)
    (conv=>whnf)
    (refine ob ?_ ?_;(first | trivial | omega | (simp only [inR];omega) | exact ble (by rfl) | exact SlR.some ‹_› (by omega));(conv=>whnf))
    refine RoundP.of (i + 1,()) (HeadP.of [] ⟨rfl,rfl,rfl,trivial⟩ trivial) hlt (by simp only;omega)
   ·(refine ob ?_ ?_;(first | trivial | omega | (simp only [inR];omega) | exact ble (by rfl) | exact SlR.some ‹_› (by omega));(conv=>whnf))
    refine RoundP.of (i + 1,()) (HeadP.of [] ⟨rfl,rfl,rfl,trivial⟩ trivial) hlt (by simp only;omega)
  ·exact FinP.mk rfl
theorem mark166:Sound Try.prog 166 id (gsca (fun args _ m=>args = [I m]∧inF m 0 999 = true) fun _ v=>v = .bool true):=by
 refine comp166.gsca (Tab.cons 167 _ in167 body167 (Tab.nil _)) (fun args G s h=>?_) (fun args G m h=>?_)
 ·obtain ⟨rfl,_⟩:=h;simp
 ·obtain ⟨rfl,hm⟩:=h
  (conv=>whnf)
  refine OblP.mk ⟨_,_,_,rfl⟩ (W.mk ?_)
  (conv=>whnf)
  refine ForkP.mk (fun _=>W.mk ?_) (fun h=>absurd (hm.symm.trans h) (by decide))
  (conv=>whnf)
  exact FinP.mk rfl
theorem few126:Sound Try.prog 126 id (gsca (fun args _ (x:SnRaw)=>args = [snVal x]∧x.2.1≤12) fun _ v=>v = .bool true):=by
 refine comp126.gsca (Tab.nil _) (fun args G s h=>?_) (fun args G x h=>?_)
 ·obtain ⟨rfl,_⟩:=h;simp
 ·obtain ⟨rfl,hx⟩:=h
  obtain ⟨a,n,c,s⟩:=x
  dsimp only at hx
  (conv=>whnf)
  refine IteP.mk (fun _=>W.mk ?_) (fun h=>absurd (show (n:Int)≤12 by omega) h)
  (conv=>whnf)
  exact FinP.mk rfl
theorem valid128:Sound Try.prog 128 id (gsca (fun args G (w:Sn)=>∃ h,args = [.agg #[h,I w.size]]∧SlV intE G h w.marks∧badS w = false) fun _ v=>v = .bool true):=by
 refine comp128.gsca (Tab.cons 164 _ ris164 body164 (Tab.cons 167 _ in167 body167 (Tab.nil _))) (fun args G s h=>?_) (fun args G w h=>?_)
 ·obtain ⟨h,rfl,_⟩:=h;simp
 ·obtain ⟨_,rfl,⟨a,n,c,rfl,hl,hn⟩,hb⟩:=h
  simp only [badS,Bool.or_eq_false_iff,Bool.not_eq_false',List.any_eq_false,badM,Bool.not_eq_true',Bool.not_eq_false] at hb
  obtain ⟨hb1,hb2,hb3⟩:=hb
  (conv=>whnf)
  refine ScaP.g (ok1 (slRd intE) fun l=>risL l = true) (x:=w.marks) ⟨_,rfl,⟨_,_,_,rfl,hl,hn⟩,hb2⟩ (fun v hv=>W.mk ?_)
  subst hv
  (conv=>whnf)
  refine ForkP.mk (fun _=>W.mk ?_) (fun h=>by cases h)
  (conv=>whnf)
  refine CallN.mk ⟨_,allT (all165 166 #[] #[] (fun _=>true) (fun m=>inF m 0 999 = true) (fun _=>True) (fun _ _ _ h=>h) (SoundFn.of body166 (Sound.bare (TestS.of mark166 (fun m G hm _=>⟨m,rfl,hm⟩) (fun m G v _ _ ⟨_,_,h⟩=>h))))) w.marks,body165,W.mk ?_⟩
  (conv=>whnf)
  refine ScaP.mk ⟨trivial,_,rfl,⟨_,_,_,rfl,hl,hn⟩,fun m hm=>by simpa using hb1 m hm⟩ (fun v hv=>W.mk ?_)
  subst hv
  (conv=>whnf)
  refine ForkP.mk (fun _=>W.mk ?_) (fun h=>by cases h)
  (conv=>whnf)
  refine OblP.mk ⟨_,_,_,rfl⟩ (W.mk ?_)
  (conv=>whnf)
  refine ForkP.mk (fun _=>W.mk ?_) (fun h=>absurd (hb3.symm.trans h) (by decide))
  (conv=>whnf)
  exact FinP.mk rfl
theorem fault_ok {ws:List Sn} (h:faultS ws = 0):ws.length≤20∧(∀ w∈ws,w.marks.length≤12)∧∀ w∈ws,badS w = false:=by
 unfold faultS at h
 split at h
 ·cases h
 split at h
 ·cases h
 split at h
 ·cases h
 rename_i h1 h2 h3
 refine ⟨by omega,fun w hw=>?_,fun w hw=>?_⟩
 ·simp only [List.any_eq_true,not_exists,not_and,Bool.not_eq_true] at h2
  have:=h2 w hw
  simp only [longS,decide_eq_false_iff_not] at this
  omega
 ·simp only [List.any_eq_true,not_exists,not_and,Bool.not_eq_true] at h3
  exact h3 w hw
theorem few127:Sound Try.prog 127 id (gsca (fun args G ws=>∃ w,args = [w, .func (.func 126) #[] #[]]∧SnsV G w ws∧∀ x∈ws,x.marks.length≤12) fun _ v=>v = .bool true):=fun args G W hs ⟨ws,w,ha,⟨a,n,c,e,hl,hn⟩,hb⟩=>by
 subst ha e
 obtain ⟨F,hF,hFR⟩:=sn_raw hl
 have hlen:=hl.len
 refine ((allT (all127 126 #[] #[] (fun _=>true) (fun x:SnRaw=>x.2.1≤12) (fun _=>True) (fun _ _ _ h=>h) (SoundFn.of body126 (Sound.bare (TestS.of few126 (fun x G hx _=>⟨x,rfl,hx⟩) (fun x G v _ _ ⟨_,_,h⟩=>h))))) ((List.range n).map F)) _ G W hs ⟨trivial,_,rfl,⟨_,_,_,rfl,hF,hn⟩,fun x hx=>?_⟩).mono fun e W' ⟨v,h1,h2,h3⟩=>⟨v,h1,⟨ws,⟨_,rfl,⟨_,_,_,rfl,hl,hn⟩,hb⟩,h2⟩,h3⟩
 obtain ⟨i,hi,rfl⟩:=List.mem_map.1 hx
 have hi:i < ws.length:=by rw [hlen];simpa using hi
 obtain ⟨_,q1,ma,mn,mc,rfl,hm1,hm2⟩:=hFR i hi
 have:=hb _ (List.getElem_mem hi)
 have:=hm1.len
 simp only [snE,List.cons.injEq,Value.slice.injEq] at q1
 rw [q1.1.2.1];omega
theorem valid127:Sound Try.prog 127 id (gsca (fun args G ws=>∃ w,args = [w, .func (.func 128) #[] #[]]∧SnsV G w ws∧∀ x∈ws,badS x = false) fun _ v=>v = .bool true):=fun args G W hs ⟨ws,w,ha,⟨a,n,c,e,hl,hn⟩,hb⟩=>by
 subst ha e
 obtain ⟨F,hF,hFR⟩:=sn_raw hl
 have hlen:=hl.len
 refine ((allT (all127 128 #[] #[] (fun _=>true) (fun x:SnRaw=>∃ w,SnR G (snE.f x) w∧badS w = false) (Grow G) (fun _ _ h h'=>h'.trans h) (SoundFn.of body128 (Sound.bare (TestS.of valid128 (fun x G' ⟨w,hw,hb⟩ hj=>⟨w,_,(by
  obtain ⟨hd,e,k1⟩:=hw
  simp only [snE,List.cons.injEq,and_true] at e
  show [Value.agg #[_,_]] = _
  rw [e.2]),(by
  obtain ⟨hd,e,k1⟩:=hw.grow hj
  simp only [snE,List.cons.injEq,and_true] at e
  rw [← e.1] at k1
  exact k1),hb⟩) (fun x G v _ _ ⟨_,_,h⟩=>h))))) ((List.range n).map F)) _ G W hs ⟨Grow.refl _,_,rfl,⟨_,_,_,rfl,hF,hn⟩,fun x hx=>?_⟩).mono fun e W' ⟨v,h1,h2,h3⟩=>⟨v,h1,⟨ws,⟨_,rfl,⟨_,_,_,rfl,hl,hn⟩,hb⟩,h2⟩,h3⟩
 obtain ⟨i,hi,rfl⟩:=List.mem_map.1 hx
 have hi:i < ws.length:=by rw [hlen];simpa using hi
 exact ⟨ws[i],hFR i hi,hb _ (List.getElem_mem hi)⟩
theorem check88:Sound Try.prog 88 id (gsca (args2 snsRd snsRd fun l r=>faultS l = 0∧faultS r = 0) fun _ v=>v = I 0):=by
 refine comp88.gsca (Tab.nil _) (fun args G s h=>?_) (fun args G p h=>?_)
 ·obtain ⟨u,v,rfl,_⟩:=h;simp
 ·obtain ⟨l,r⟩:=p
  obtain ⟨u,v,rfl,⟨a,n,c,rfl,hl,hn⟩,⟨a',n',c',rfl,hl',hn'⟩,hf,hf'⟩:=h
  dsimp only at hl hl' hf hf'
  obtain ⟨f1,f2,f3⟩:=fault_ok hf
  obtain ⟨g1,g2,g3⟩:=fault_ok hf'
  have hlen:=hl.len
  have hlen':=hl'.len
  (conv=>whnf)
  refine IteP.mk (fun h=>absurd h (by omega)) (fun _=>W.mk ?_)
  (conv=>whnf)
  refine IteP.mk (fun h=>absurd h (by omega)) (fun _=>W.mk ?_)
  (conv=>whnf)
  refine CallN.mk ⟨_,few127,body127,W.mk ?_⟩
  (conv=>whnf)
  refine ScaP.mk ⟨l,_,rfl,⟨_,_,_,rfl,hl,by assumption⟩,f2⟩ (fun v hv=>W.mk ?_)
  obtain ⟨_,_,hv⟩:=hv
  subst hv
  (conv=>whnf)
  refine ForkP.mk (fun _=>W.mk ?_) (fun h=>by cases h)
  (conv=>whnf)
  refine CallN.mk ⟨_,few127,body127,W.mk ?_⟩
  (conv=>whnf)
  refine ScaP.mk ⟨r,_,rfl,⟨_,_,_,rfl,hl',by assumption⟩,g2⟩ (fun v hv=>W.mk ?_)
  obtain ⟨_,_,hv⟩:=hv
  subst hv
  (conv=>whnf)
  refine ForkP.mk (fun _=>W.mk ?_) (fun h=>by cases h)
  (conv=>whnf)
  refine CallN.mk ⟨_,valid127,body127,W.mk ?_⟩
  (conv=>whnf)
  refine ScaP.mk ⟨l,_,rfl,⟨_,_,_,rfl,hl,by assumption⟩,f3⟩ (fun v hv=>W.mk ?_)
  obtain ⟨_,_,hv⟩:=hv
  subst hv
  (conv=>whnf)
  refine ForkP.mk (fun _=>W.mk ?_) (fun h=>by cases h)
  (conv=>whnf)
  refine CallN.mk ⟨_,valid127,body127,W.mk ?_⟩
  (conv=>whnf)
  refine ScaP.mk ⟨r,_,rfl,⟨_,_,_,rfl,hl',by assumption⟩,g3⟩ (fun v hv=>W.mk ?_)
  obtain ⟨_,_,hv⟩:=hv
  subst hv
  (conv=>whnf)
  refine ForkP.mk (fun _=>W.mk ?_) (fun h=>by cases h)
  (conv=>whnf)
  exact FinP.mk rfl
def spE:El (Int × Int):=⟨2,fun x=>[I x.1,I x.2],fun {x y} h=>by obtain ⟨_,_⟩:=x;obtain ⟨_,_⟩:=y;simp at h;simp [h],fun _=>rfl,fun _ v hv=>by simp at hv;rcases hv with rfl | rfl<;>rfl⟩
abbrev spV (x:Int × Int):Value:=.agg #[I x.1,I x.2]
def spRd:Rd (Int × Int):=⟨fun _ v x=>v = spV x,fun {_ _ x y} h h'=>by rw [h] at h';obtain ⟨_,_⟩:=x;obtain ⟨_,_⟩:=y;simp [spV] at h';simp [h'],fun {_ _ _ _} _ h=>h⟩
def kindsL:List (Int × Int):=[(2,1),(1,2),(1,1),(1,0),(0,1)]
def unitRd:GRel Unit:=fun args _ _=>args = []
theorem okU:GOk unitRd:=⟨fun _ _ _ _ _ _=>rfl,fun _ _ _ _ _ h=>h⟩
theorem kinds130:Sound Try.prog 130 id (grel unitRd fun _ v G=>SlV spE G v kindsL):=by
 refine comp130.grel (Tab.nil _) okU (fun args G s h=>?_) (fun x v G G' hg h=>h.grow hg) (fun args G x h=>?_)
 ·have h:args = []:=h
  subst h;simp
 ·have h:args = []:=h
  subst h
  (conv=>whnf)
  refine PubP.mk (fun a1 c1 G1 hg1 hp=>W.mk ?_)
  (conv=>whnf)
  refine FinP.mk ?_
  exact (Row.of_all (e:=spE) kindsL rfl).pub hp (by decide)
theorem eq103 (a b c d:Int):∀ w,((POp.bin .eql 103).sem [.agg #[I a,I b], .agg #[I c,I d]]).run Try.prog w = .ok (.bool (decide (a = c∧b = d))) w :=
 pur_eq2 (e:=3) (by kernel_rfl) (by kernel_rfl) (by kernel_rfl) (by kernel_rfl) (by kernel_rfl) (by kernel_rfl) (by kernel_rfl) a b c d
theorem eq169 (a b c d:Int):∀ w,((POp.bin .eql 169).sem [.agg #[I a,I b], .agg #[I c,I d]]).run Try.prog w = .ok (.bool (decide (a = c∧b = d))) w :=
 pur_eq2 (e:=3) (by kernel_rfl) (by kernel_rfl) (by kernel_rfl) (by kernel_rfl) (by kernel_rfl) (by kernel_rfl) (by kernel_rfl) a b c d
def idxE (q:Int × Int) (l:List (Int × Int)) (k:Nat):Int:=match l with
 | []=>-1
 | r :: t=>if q.1 = r.1∧q.2 = r.2 then (k:Int) else idxE q t (k + 1)
theorem idx168:Sound Try.prog 168 id (gsca (args2 (slRd spE) spRd fun _ _=>True) fun p v=>v = I (idxE p.2 p.1 0)):=by
 refine comp168.gsca (Tab.nil _) (fun args G s h=>?_) (fun args G p h=>?_)
 ·obtain ⟨u,v,rfl,_⟩:=h;simp
 ·obtain ⟨l,q⟩:=p
  obtain ⟨u,v,rfl,⟨a,n,c,rfl,hl,hn⟩,rfl,_⟩:=h
  obtain ⟨q1,q2⟩:=q
  dsimp only at hl
  have hlen:=hl.len
  dsimp only
  (conv=>whnf)
  refine LoopP.of { α:=Nat × Unit,fr:=fun x=>[(0, .v (.slice a n c)),(3, .c (.ptr 0 0)),(7, .v (I n)),(8, .v (I x.1))],H:=fun _=>[(0, .cells .anon [.val (I q1), .val (I q2)] 103)],ok:=fun x _=>x.1≤l.length∧idxE (q1,q2) (l.drop x.1) x.1 = idxE (q1,q2) l 0,m:=fun x=>l.length - x.1 }
   (0,()) (HeadP.of [] ⟨rfl,rfl,rfl,rfl,trivial⟩ ⟨rfl,trivial⟩) ⟨Nat.zero_le _,rfl⟩ (fun _=>⟨rfl,rfl⟩) (fun x G1 hg1 hx=>W.mk ?_)
  obtain ⟨i,_⟩:=x
  obtain ⟨hi,hx⟩:=hx
  dsimp only at hi hx
  replace hl:=SlR.grow (G:=G) (G':=G1) (fun _ _ h=>h) hl hg1
  dsimp only
  (conv=>whnf)
  refine IteP.mk (fun hlt=>W.mk ?_) (fun hge=>W.mk ?_)<;>(conv=>whnf)
  ·have hlt:i < l.length:=by omega
   have hc:=hl.el hlt
   rw [List.drop_eq_getElem_cons hlt,idxE] at hx
   generalize l[i] = y at hx hc
   obtain ⟨y1,y2⟩:=y
   have hc:CellsAt G1 (ab a) (ao a + i * 2) [I y1,I y2]:=hc
   repeat' (first | (refine ob ?_ ?_;(first | trivial | omega | (simp only [inR];omega) | exact ble (by rfl) | exact SlR.some ‹_› (by omega));(conv=>whnf)) | (first | (refine ra ‹_› (by rfl) ?_;(conv=>whnf)) | (refine rb ‹_› (by rfl) ?_;(conv=>whnf)) | (refine rc ‹_› (by rfl) ?_;(conv=>whnf)) | (refine rd ‹_› (by rfl) ?_;(conv=>whnf))))
   refine PurP.of _ (eq103 q1 q2 y1 y2) (W.mk ?_)
   (conv=>whnf)
   refine ForkP.mk (fun hq=>W.mk ?_) (fun hq=>W.mk ?_)<;>(conv=>whnf)
   ·refine FinP.mk ?_
    rw [if_pos (by simpa using hq)] at hx
    show I (i:Int) = I _;rw [← hx]
   ·(refine ob ?_ ?_;(first | trivial | omega | (simp only [inR];omega) | exact ble (by rfl) | exact SlR.some ‹_› (by omega));(conv=>whnf))
    rw [if_neg (by simpa using hq)] at hx
    exact RoundP.of (i + 1,()) (HeadP.of [] ⟨rfl,rfl,rfl,rfl,trivial⟩ ⟨rfl,trivial⟩) ⟨hlt,hx⟩ (by simp only;omega)
  ·have:i = l.length:=by omega
   subst this
   rw [List.drop_length] at hx
   refine FinP.mk ?_
   show I (-1) = I _;rw [← hx];rfl
theorem has129:Sound Try.prog 129 id (gsca (args2 (slRd spE) spRd fun _ _=>True) fun p v=>v = .bool (decide (0≤idxE p.2 p.1 0))):=by
 refine comp129.gsca (Tab.cons 168 _ idx168 body168 (Tab.nil _)) (fun args G s h=>?_) (fun args G p h=>?_)
 ·obtain ⟨u,v,rfl,_⟩:=h;simp
 ·obtain ⟨l,q⟩:=p
  obtain ⟨u,v,rfl,⟨a,n,c,rfl,hl,hn⟩,rfl,_⟩:=h
  obtain ⟨q1,q2⟩:=q
  dsimp only at hl ⊢
  (conv=>whnf)
  refine ScaP.g (ok2 (slRd spE) spRd fun _ _=>True) (x:=(l,(q1,q2))) ⟨_,_,rfl,⟨_,_,_,rfl,hl,hn⟩,rfl,trivial⟩ (fun v hv=>W.mk ?_)
  subst hv
  dsimp only
  (conv=>whnf)
  refine IteP.mk (fun h=>W.mk ?_) (fun h=>W.mk ?_)<;>(conv=>whnf)<;>refine FinP.mk (congrArg Value.bool ?_)
  ·exact (decide_eq_true h).symm
  ·exact (decide_eq_false h).symm
def TwV (G:Hp) (v:Value) (p:List Sn × List Sn):Prop:=∃ u w,v = .agg #[u,w]∧SnsV G u p.1∧SnsV G w p.2
def twRd:Rd (List Sn × List Sn):=⟨TwV,fun {_ _ x y} ⟨u,w,h,h1,h2⟩ ⟨u',w',h',h1',h2'⟩=>by
  subst h
  simp only [Value.agg.injEq,Array.mk.injEq,List.cons.injEq,and_true] at h'
  obtain ⟨e1,e2⟩:=h'
  subst e1;subst e2
  exact Prod.ext (snsRd.uniq h1 h1') (snsRd.uniq h2 h2'),fun hg ⟨u,w,h,h1,h2⟩=>⟨u,w,h,h1.grow hg,h2.grow hg⟩⟩
theorem end131:Sound Try.prog 131 id (gsca (args1 twRd fun _=>True) fun p v=>v = spV (p.1.length,p.2.length)):=by
 refine comp131.gsca (Tab.nil _) (fun args G s h=>?_) (fun args G p h=>?_)
 ·obtain ⟨v,rfl,_⟩:=h;simp
 ·obtain ⟨l,r⟩:=p
  obtain ⟨v,rfl,⟨_,_,rfl,⟨a,n,c,rfl,hl,hn⟩,⟨a',n',c',rfl,hl',hn'⟩⟩,_⟩:=h
  dsimp only at hl hl'
  have hlen:=hl.len
  have hlen':=hl'.len
  (conv=>whnf)
  refine FinP.mk ?_
  show Value.agg #[I n,I n'] = Value.agg #[I l.length,I r.length]
  rw [hlen,hlen']
end Go.Proofs.Ytefnikpoimaiiaa

namespace Go.Proofs.Ytefnikpoimaiiaa
open Go.Pal Go.RowKit
set_option maxRecDepth 100000
theorem in135:Sound Try.prog 135 id inS:=by
 refine comp135.fn (Tab.nil _) (fun args G h=>?_) (fun args G h=>?_)
 ·obtain ⟨n,lo,hi,rfl⟩:=h;simp
 ·obtain ⟨n,lo,hi,rfl⟩:=h
  (conv=>whnf)
  repeat' (first | (refine IteP.mk (fun _=>W.mk ?_) (fun _=>W.mk ?_)<;>(conv=>whnf)) | (refine ob ?_ ?_;(first | trivial | omega | (simp only [inR];omega) | exact ble (by rfl) | exact SlR.some ‹_› (by omega));(conv=>whnf)) | (refine ForkP.mk (fun _=>W.mk ?_) (fun _=>W.mk ?_)<;>(conv=>whnf)) | (refine ra ‹_› (by rfl) ?_;(conv=>whnf)) | (refine rb ‹_› (by rfl) ?_;(conv=>whnf)) | (refine rc ‹_› (by rfl) ?_;(conv=>whnf)) | (refine rd ‹_› (by rfl) ?_;(conv=>whnf)) | (refine FinP.mk ?_))
  all_goals (refine congrArg Value.bool ?_;simp [inF, *])
theorem day136:Sound Try.prog 136 id (gsca (fun args _ m=>args = [I m]∧inF m 0 99999 = true) fun _ v=>v = .bool true):=by
 refine comp136.gsca (Tab.cons 135 _ in135 body135 (Tab.nil _)) (fun args G s h=>?_) (fun args G m h=>?_)
 ·obtain ⟨rfl,_⟩:=h;simp
 ·obtain ⟨rfl,hm⟩:=h
  (conv=>whnf)
  refine OblP.mk ⟨_,_,_,rfl⟩ (W.mk ?_)
  (conv=>whnf)
  refine ForkP.mk (fun _=>W.mk ?_) (fun h=>absurd ((hm).symm.trans h) (by decide))
  (conv=>whnf)
  exact FinP.mk rfl
theorem anchor137:Sound Try.prog 137 id (gsca (fun args _ m=>args = [I m]∧inF m 1 999 = true) fun _ v=>v = .bool true):=by
 refine comp137.gsca (Tab.cons 135 _ in135 body135 (Tab.nil _)) (fun args G s h=>?_) (fun args G m h=>?_)
 ·obtain ⟨rfl,_⟩:=h;simp
 ·obtain ⟨rfl,hm⟩:=h
  (conv=>whnf)
  refine OblP.mk ⟨_,_,_,rfl⟩ (W.mk ?_)
  (conv=>whnf)
  refine ForkP.mk (fun _=>W.mk ?_) (fun h=>absurd ((hm).symm.trans h) (by decide))
  (conv=>whnf)
  exact FinP.mk rfl
theorem char173:Sound Try.prog 173 id (gsca (fun args _ (c:Int)=>args = [U c]∧32≤c∧c≤126) fun _ v=>v = .bool true):=by
 refine comp173.gsca (Tab.nil _) (fun args G s h=>?_) (fun args G c h=>?_)
 ·obtain ⟨rfl,_⟩:=h;simp
 ·obtain ⟨rfl,h1,h2⟩:=h
  (conv=>whnf)
  refine IteP.mk (fun _=>W.mk ?_) (fun h=>absurd h1 h)
  (conv=>whnf)
  refine IteP.mk (fun _=>W.mk ?_) (fun h=>absurd h2 h)
  (conv=>whnf)
  exact FinP.mk rfl
def bytesL (s:ByteArray):List Int:=s.data.toList.map fun b=>(b.toNat:Int)
structure TxOk (s:ByteArray):Prop where
 n:1≤s.size∧s.size≤200
 b:∀ c∈bytesL s,32≤c∧c≤126
theorem flat1 {α β:Type} (g:α→β) (l:List α):(l.map fun x=>[g x]).flatten = l.map g:=by
 induction l with
 | nil=>rfl
 | cons x r ih=>simp [ih]
theorem text138:Sound Try.prog 138 id (gsca (fun args _ s=>args = [.string s]∧TxOk s) fun _ v=>v = .bool true):=by
 refine comp138.gsca (Tab.cons 135 _ in135 body135 (Tab.nil _)) (fun args G s h=>?_) (fun args G s h=>?_)
 ·obtain ⟨rfl,_⟩:=h;simp
 ·obtain ⟨rfl,hs⟩:=h
  have hn:=hs.n
  have hin:inF s.size 1 200 = true:=by simp only [inF,decide_eq_true_eq];omega
  (conv=>whnf)
  refine OblP.mk ⟨_,_,_,rfl⟩ (W.mk ?_)
  (conv=>whnf)
  refine ForkP.mk (fun _=>W.mk ?_) (fun h=>absurd ((hin).symm.trans h) (by decide))
  (conv=>whnf)
  refine RelP.mk trivial (fun v G1 hg hq1=>W.mk ?_)
  obtain ⟨ba,bc,rfl,hpr⟩:=hq1
  (conv=>whnf)
  refine CallN.mk ⟨_,allT (all172 173 #[] #[] (fun _=>true) (fun c:Int=>32≤c∧c≤126) (fun _=>True) (fun _ _ _ h=>h) (SoundFn.of body173 (Sound.bare (TestS.of char173 (fun c G hc _=>⟨c,rfl,hc⟩) (fun c G v _ _ ⟨_,_,h⟩=>h))))) (bytesL s),body172,W.mk ?_⟩
  (conv=>whnf)
  refine ScaP.mk ⟨trivial,_,rfl,hpr.slV (by
   show _ = ((bytesL s).map fun x=>[U x]).flatten
   rw [flat1,bytesL,List.map_map];rfl) (by simp [bytesL]) (by omega),hs.b⟩ (fun v hv=>W.mk ?_)
  subst hv
  (conv=>whnf)
  refine ForkP.mk (fun _=>W.mk ?_) (fun h=>by cases h)
  (conv=>whnf)
  exact FinP.mk rfl
structure PaOk (x:Int × ByteArray):Prop where
 a:inF x.1 1 999 = true
 t:TxOk x.2
theorem para170:Sound Try.prog 170 id (gsca (fun args _ x=>args = [paVal x]∧PaOk x) fun _ v=>v = .bool true):=by
 refine comp170.gsca (Tab.cons 137 _ anchor137 body137 (Tab.cons 138 _ text138 body138 (Tab.nil _))) (fun args G s h=>?_) (fun args G x h=>?_)
 ·obtain ⟨rfl,_⟩:=h;simp
 ·obtain ⟨rfl,hx⟩:=h
  obtain ⟨n,s⟩:=x
  (conv=>whnf)
  refine ScaP.mk ⟨n,rfl,hx.a⟩ (fun v hv=>W.mk ?_)
  obtain ⟨_,_,rfl⟩:=hv
  (conv=>whnf)
  refine ForkP.mk (fun _=>W.mk ?_) (fun h=>by cases h)
  (conv=>whnf)
  refine ScaP.mk ⟨s,rfl,hx.t⟩ (fun v hv=>W.mk ?_)
  obtain ⟨_,_,rfl⟩:=hv
  (conv=>whnf)
  refine ForkP.mk (fun _=>W.mk ?_) (fun h=>by cases h)
  (conv=>whnf)
  exact FinP.mk rfl
structure Vo where
 h:Int
 ps:List (Int × ByteArray)
structure VoC (G:Hp) (a:Option Addr) (c:Nat) (q:Value) (V:Vo):Prop where
 cp:1≤c
 ad:a = some ⟨ab a,ao a,none⟩
 ce:CellsAt G (ab a) (ao a) [I 0,q]
 pa:SlV paE G q V.ps
def voL (a:Option Addr) (c:Nat) (V:Vo):List Value:=[I 1,I 0,I V.h,I 10, .slice a 1 c]
def VoV (G:Hp) (v:Value) (V:Vo):Prop:=∃ a c q,v = .agg (voL a c V).toArray∧VoC G a c q V
theorem VoC.grow {G G':Hp} (hg:Grow G G') {a:Option Addr} {c:Nat} {q:Value} {V:Vo} (h:VoC G a c q V):VoC G' a c q V:=⟨h.cp,h.ad,h.ce.grow hg,h.pa.grow hg⟩
theorem VoV.grow {G G':Hp} (hg:Grow G G') {v:Value} {V:Vo} (h:VoV G v V):VoV G' v V:=by
 obtain ⟨a,c,q,h1,h2⟩:=h
 exact ⟨a,c,q,h1,h2.grow hg⟩
theorem VoV.uniq {G:Hp} {v:Value} {x y:Vo} (h:VoV G v x) (h':VoV G v y):x = y:=by
 obtain ⟨a,c,q,e,h1⟩:=h
 obtain ⟨a',c',q',e',h2⟩:=h'
 rw [e] at e'
 simp only [voL,Value.agg.injEq,Array.mk.injEq,List.cons.injEq,Value.int.injEq,Value.slice.injEq,true_and,and_true] at e'
 obtain ⟨e1,e2,e3⟩:=e'
 subst e2
 have k1:=h1.ce 1 q rfl
 have k2:=h2.ce 1 q' rfl
 rw [k1] at k2
 cases k2
 have:=h1.pa.uniq h2.pa
 cases x;cases y;simp_all
def voRd:Rd Vo:=⟨VoV,fun h h'=>h.uniq h',fun hg h=>h.grow hg⟩
structure VoOk (V:Vo):Prop where
 h:1≤V.h∧V.h≤60
 n:V.ps.length≤20
 p:∀ x∈V.ps,PaOk x
 d:(V.ps.map (·.1)).Nodup
theorem pars94:Sound Try.prog 94 id (grel (args1 voRd fun V=>V.ps.length≤1000) fun V v G=>SlV paE G v V.ps):=by
 refine comp94.grel (Tab.nil _) (ok1 _ _) (fun args G s h=>?_) (fun x v G G' hg h=>h.grow hg) (fun args G V h=>?_)
 ·obtain ⟨v,rfl,_⟩:=h;simp
 ·obtain ⟨_,rfl,⟨a,c,q,rfl,hV⟩,hb⟩:=h
  obtain ⟨qa,qn,qc,rfl,hp1,hp2⟩:=id hV.pa
  have hqn:=hp1.len
  obtain ⟨e1,e2,e3⟩:=hp1.all
  have had:=hV.ad
  have hcp:=hV.cp
  dsimp only [voL]
  (conv=>whnf)
  refine LoopP.of { α:=Nat × Nat × List Value,fr:=fun x=>[(2, .c (.row 1 x.2.1)),(6, .v (.slice a 1 c)),(7, .v (I 1)),(8, .v (I x.1))],H:=fun x=>[(1, .row none x.2.1 x.2.2 101 2)],ok:=fun x _=>(x.1 = 0∧x.2.1 = 0∧x.2.2 = [])∨(x.1 = 1∧Row paE V.ps x.2.1 x.2.2),m:=fun x=>1 - x.1 }
   (0,0,[]) (HeadP.of [(1,none)] ⟨rfl,rfl,rfl,rfl,trivial⟩ ⟨rfl,trivial⟩) (.inl ⟨rfl,rfl,rfl⟩) (fun _=>⟨rfl,rfl⟩) (fun x G1 hg1 hx=>W.mk ?_)
  obtain ⟨i,n,vs⟩:=x
  dsimp only at hx
  have hV1:=hV.grow hg1
  have hce:CellsAt G1 (ab a) (ao a + 0 * 2) [I 0, .slice qa qn qc]:=hV1.ce
  dsimp only
  rcases hx with ⟨rfl,rfl,rfl⟩ | ⟨rfl,hrow⟩
  ·(conv=>whnf)
   refine IteP.mk (fun _=>W.mk ?_) (fun h=>absurd (show (0:Int) < 1 by decide) h)
   (conv=>whnf)
   repeat' (first | (refine ob ?_ ?_;(first | trivial | omega | (simp only [inR];omega) | exact ble (by rfl) | exact SlR.some ‹_› (by omega));(conv=>whnf)) | (first | (refine ra ‹_› (by rfl) ?_;(conv=>whnf)) | (refine rb ‹_› (by rfl) ?_;(conv=>whnf)) | (refine rc ‹_› (by rfl) ?_;(conv=>whnf)) | (refine rd ‹_› (by rfl) ?_;(conv=>whnf))))
   refine OblP.mk hp1.some (W.mk ?_)
   (conv=>whnf)
   refine RdP.at (e1.grow hg1) e2 (W.mk ?_)
   (conv=>whnf)
   refine OblP.mk e3 (W.mk ?_)
   (conv=>whnf)
   refine OblP.mk rfl (W.mk ?_)
   (conv=>whnf)
   refine OblP.mk (by omega) (W.mk ?_)
   (conv=>whnf)
   repeat' (refine ob ?_ ?_;(first | trivial | omega | (simp only [inR];omega) | exact ble (by rfl) | exact SlR.some ‹_› (by omega));(conv=>whnf))
   refine RoundP.of (1,0 + qn,_) (HeadP.of [(1,some 14)] ⟨rfl,rfl,rfl,rfl,trivial⟩ ⟨rfl,trivial⟩) (.inr ⟨rfl, ?_⟩) (by simp only;omega)
   dsimp only
   rw [Nat.zero_add,List.nil_append]
   exact Row.of_all _ hqn
  ·(conv=>whnf)
   refine IteP.mk (fun h=>absurd h (by decide)) (fun _=>W.mk ?_)
   (conv=>whnf)
   refine PubP.mk (fun a1 c1 G4 hg4 h4=>W.mk ?_)
   (conv=>whnf)
   have:=hrow.n
   exact FinP.mk (hrow.pub h4 (by omega))
theorem all169v:Sound Try.prog 169 id (gsca (fun args G ps=>∃ w,args = [w, .func (.func 170) #[] #[]]∧SlV paE G w ps∧∀ x∈ps,PaOk x) fun _ v=>v = .bool true):=fun args G W hs ⟨ps,w,ha,hv,hb⟩ =>
 ((allT (all169 170 #[] #[] (fun _=>true) PaOk (fun _=>True) (fun _ _ _ h=>h) (SoundFn.of body170 (Sound.bare (TestS.of para170 (fun x G hx _=>⟨x,rfl,hx⟩) (fun x G v _ _ ⟨_,_,h⟩=>h))))) ps) args G W hs ⟨trivial,w,ha,hv,hb⟩).mono fun e W' ⟨v,h1,h2,h3⟩=>⟨v,h1,⟨ps,⟨w,ha,hv,hb⟩,h2⟩,h3⟩
theorem valid132:Sound Try.prog 132 id (gsca (args1 voRd VoOk) fun _ v=>v = .bool true):=by
 refine comp132.gsca (Tab.cons 136 _ day136 body136 (Tab.cons 135 _ in135 body135 (Tab.cons 94 _ pars94 body94 (Tab.cons 169 _ all169v body169 (Tab.nil _))))) (fun args G s h=>?_) (fun args G V h=>?_)
 ·obtain ⟨v,rfl,_⟩:=h;simp
 ·obtain ⟨_,rfl,⟨a,c,q,rfl,hV⟩,hok⟩:=h
  obtain ⟨qa,qn,qc,rfl,hp1,hp2⟩:=id hV.pa
  have had:=hV.ad
  have hcp:=hV.cp
  have hh:=hok.h
  dsimp only [voL]
  (conv=>whnf)
  refine LoopP.of { α:=Nat × Unit,fr:=fun x=>[(1, .c (.ptr 0 0)),(6, .v (.slice a 1 c)),(7, .v (I 1)),(8, .v (I x.1))],H:=fun _=>[(0, .cells .anon ((voL a c V).map .val) 96)],ok:=fun x _=>x.1≤1,m:=fun x=>1 - x.1 }
   (0,()) (HeadP.of [] ⟨rfl,rfl,rfl,rfl,trivial⟩ ⟨rfl,trivial⟩) (Nat.zero_le _) (fun _=>⟨rfl,rfl⟩) (fun x G1 hg1 hx=>W.mk ?_)
  obtain ⟨i,_⟩:=x
  have hi:i≤1:=hx
  have hV1:=hV.grow hg1
  have hce:CellsAt G1 (ab a) (ao a + 0 * 2) [I 0, .slice qa qn qc]:=hV1.ce
  dsimp only [voL]
  (conv=>whnf)
  refine IteP.mk (fun hlt=>W.mk ?_) (fun hge=>W.mk ?_)<;>(conv=>whnf)
  ·obtain rfl:i = 0:=by omega
   repeat' (first | (refine ob ?_ ?_;(first | trivial | omega | (simp only [inR];omega) | exact ble (by rfl) | exact SlR.some ‹_› (by omega));(conv=>whnf)) | (first | (refine ra ‹_› (by rfl) ?_;(conv=>whnf)) | (refine rb ‹_› (by rfl) ?_;(conv=>whnf)) | (refine rc ‹_› (by rfl) ?_;(conv=>whnf)) | (refine rd ‹_› (by rfl) ?_;(conv=>whnf))))
   refine ScaP.mk ⟨0,rfl,by decide⟩ (fun v hv=>W.mk ?_)
   obtain ⟨_,_,rfl⟩:=hv
   (conv=>whnf)
   refine ForkP.mk (fun _=>W.mk ?_) (fun h=>by cases h)
   (conv=>whnf)
   refine IteP.mk (fun h=>absurd h (by decide)) (fun _=>W.mk ?_)
   (conv=>whnf)
   refine IteP.mk (fun h=>absurd h (by decide)) (fun _=>W.mk ?_)
   (conv=>whnf)
   repeat' (refine ob ?_ ?_;(first | trivial | omega | (simp only [inR];omega) | exact ble (by rfl) | exact SlR.some ‹_› (by omega));(conv=>whnf))
   refine RoundP.of (1,()) (HeadP.of [] ⟨rfl,rfl,rfl,rfl,trivial⟩ ⟨rfl,trivial⟩) (Nat.le_refl 1) (by simp only;omega)
  have hi1:inF 1 1 99 = true:=by decide
  have hi2:inF V.h 1 60 = true:=by simp only [inF,decide_eq_true_eq];omega
  have hi3:inF 10 10 80 = true:=by decide
  refine OblP.mk ⟨_,_,_,rfl⟩ (W.mk ?_)
  (conv=>whnf)
  refine ForkP.mk (fun _=>W.mk ?_) (fun h=>absurd ((hi1).symm.trans h) (by decide))
  (conv=>whnf)
  refine ScaP.mk ⟨0,rfl,by decide⟩ (fun v hv=>W.mk ?_)
  obtain ⟨_,_,rfl⟩:=hv
  (conv=>whnf)
  refine ForkP.mk (fun _=>W.mk ?_) (fun h=>by cases h)
  (conv=>whnf)
  refine OblP.mk ⟨_,_,_,rfl⟩ (W.mk ?_)
  (conv=>whnf)
  refine ForkP.mk (fun _=>W.mk ?_) (fun h=>absurd ((hi2).symm.trans h) (by decide))
  (conv=>whnf)
  refine OblP.mk ⟨_,_,_,rfl⟩ (W.mk ?_)
  (conv=>whnf)
  refine ForkP.mk (fun _=>W.mk ?_) (fun h=>absurd ((hi3).symm.trans h) (by decide))
  (conv=>whnf)
  refine RelP.g (ok1 voRd fun V=>V.ps.length≤1000) (x:=V) ⟨_,rfl,⟨_,_,_,rfl,hV1⟩,by have:=hok.n;omega⟩ (Grow.refl _) (fun v G2 hg2 hq=>W.mk ?_)
  obtain ⟨pa,pn,pc,rfl,_,_⟩:=id hq
  (conv=>whnf)
  refine ScaP.mk ⟨V.ps,_,rfl,hq,hok.p⟩ (fun v hv=>W.mk ?_)
  obtain ⟨_,_,rfl⟩:=hv
  (conv=>whnf)
  refine ForkP.mk (fun _=>W.mk ?_) (fun h=>by cases h)
  (conv=>whnf)
  exact FinP.mk rfl
end Go.Proofs.Ytefnikpoimaiiaa

namespace Go.Proofs.Ytefnikpoimaiiaa
open Go.Pal Go.RowKit
set_option maxRecDepth 100000
theorem und3:Try.prog.underlying 3 = some (.int .i64):=by kernel_rfl
def ancS (ps:List (Int × ByteArray)) (i:Nat) (y:Int):Bool:=(ps.take i).any fun x=>decide (x.1 = y)
theorem ancS_succ {ps:List (Int × ByteArray)} {i:Nat} (hi:i < ps.length):ancS ps (i + 1) = fun y=>ancS ps i y || decide (y = ps[i].1):=by
 funext y
 rw [ancS,take_snoc (List.getElem?_eq_getElem hi),List.any_append]
 simp only [List.any_cons,List.any_nil,Bool.or_false,ancS]
 congr 1
 rw [Bool.eq_iff_iff];simp [eq_comm]
theorem ancS_new {ps:List (Int × ByteArray)} (hd:(ps.map (·.1)).Nodup) {i:Nat} (hi:i < ps.length):ancS ps i ps[i].1 = false:=by
 rw [ancS,List.any_eq_false]
 intro x hx
 rw [decide_eq_true_eq]
 intro e
 obtain ⟨j,hj,rfl⟩:=List.getElem_of_mem hx
 rw [List.length_take] at hj
 rw [List.getElem_take] at e
 have k1:(ps.map (·.1))[j]? = some ps[i].1:=by rw [List.getElem?_map,List.getElem?_eq_getElem (by omega)];simp [e]
 have k2:(ps.map (·.1))[i]? = some ps[i].1:=by rw [List.getElem?_map,List.getElem?_eq_getElem hi];rfl
 have:=(List.getElem?_inj (List.getElem?_eq_some_iff.1 k1).1 hd).1 (k1.trans k2.symm)
 omega
theorem anc_rng {V:Vo} (h:VoOk V) {i:Nat} (hi:i < V.ps.length):inR .i64 V.ps[i].1:=by
 have:=(h.p _ (List.getElem_mem hi)).a
 simp only [inF,decide_eq_true_eq] at this
 simp only [inR];omega
theorem check91:Sound Try.prog 91 id (gsca (args1 voRd VoOk) fun _ v=>v = I 0):=by
 refine comp91.gsca (Tab.cons 94 _ pars94 body94 (Tab.cons 132 _ valid132 body132 (Tab.nil _))) (fun args G s h=>?_) (fun args G V h=>?_)
 ·obtain ⟨v,rfl,_⟩:=h;simp
 ·obtain ⟨_,rfl,⟨a,c,q,rfl,hV⟩,hok⟩:=h
  obtain ⟨qa,qn,qc,rfl,hp1,hp2⟩:=id hV.pa
  have hn:=hok.n
  dsimp only [voL]
  (conv=>whnf)
  refine RelP.g (ok1 voRd fun V=>V.ps.length≤1000) (x:=V) ⟨_,rfl,⟨_,_,_,rfl,hV⟩,by omega⟩ (Grow.refl _) (fun v G2 hg2 hq=>W.mk ?_)
  obtain ⟨pa,pn,pc,rfl,hl1,hl2⟩:=id hq
  have hlen:=hl1.len
  (conv=>whnf)
  refine IteP.mk (fun h=>absurd h (by decide)) (fun _=>W.mk ?_)
  (conv=>whnf)
  refine IteP.mk (fun h=>absurd h (by omega)) (fun _=>W.mk ?_)
  (conv=>whnf)
  refine ScaP.g (ok1 voRd VoOk) (x:=V) ⟨_,rfl,⟨_,_,_,rfl,hV.grow hg2⟩,hok⟩ (fun v hv=>W.mk ?_)
  subst hv
  (conv=>whnf)
  refine ForkP.mk (fun _=>W.mk ?_) (fun h=>by cases h)
  (conv=>whnf)
  refine LoopP.of { α:=Nat × Array MapEntry × Nat,fr:=fun x=>[(4, .c (.mref 21)),(24, .v (.slice pa pn pc)),(25, .v (I pn)),(26, .v (I x.1))],H:=fun x=>[(21, .map .anon x.2.1 x.2.2)],ok:=fun x _=>x.1≤V.ps.length∧ISet Try.prog 3 x.2.1 (ancS V.ps x.1),m:=fun x=>V.ps.length - x.1 }
   (0, #[],0) (HeadP.of [] ⟨rfl,rfl,rfl,rfl,trivial⟩ ⟨rfl,trivial⟩) ⟨Nat.zero_le _,ISet.nil⟩ (fun _=>⟨rfl,rfl⟩) (fun x G3 hg3 hx=>W.mk ?_)
  obtain ⟨i,es,ck⟩:=x
  obtain ⟨hi,his⟩:=hx
  dsimp only at hi his
  have hl3:=SlR.grow (G:=G2) (G':=G3) (fun _ _ h=>h) hl1 hg3
  dsimp only
  (conv=>whnf)
  refine IteP.mk (fun hlt=>W.mk ?_) (fun hge=>W.mk ?_)<;>(conv=>whnf)
  ·have hlt:i < V.ps.length:=by omega
   have hc:=hl3.el hlt
   have hnew:=ancS_new hok.d hlt
   have hsuc:=ancS_succ (ps:=V.ps) hlt
   have hrg:=anc_rng hok hlt
   generalize V.ps[i] = y at hc hnew hsuc hrg
   obtain ⟨y,s⟩:=y
   have hc:CellsAt G3 (ab pa) (ao pa + i * 2) [I y, .string s]:=hc
   dsimp only at hnew hsuc hrg
   repeat' (first | (refine ob ?_ ?_;(first | trivial | omega | (simp only [inR];omega) | exact ble (by rfl) | exact SlR.some ‹_› (by omega));(conv=>whnf)) | (first | (refine ra ‹_› (by rfl) ?_;(conv=>whnf)) | (refine rb ‹_› (by rfl) ?_;(conv=>whnf)) | (refine rc ‹_› (by rfl) ?_;(conv=>whnf)) | (refine rd ‹_› (by rfl) ?_;(conv=>whnf))))
   obtain ⟨r,f1,f2,f3⟩:=ISet.find und3 his (x:=y) hrg
   refine KeyP.mk ⟨_,f1,W.mk ?_⟩
   dsimp only
   rw [f2,hnew]
   (conv=>whnf)
   refine ForkP.mk (fun h=>absurd h (by decide)) (fun _=>W.mk ?_)
   (conv=>whnf)
   repeat' (refine ob ?_ ?_;(first | trivial | omega | (simp only [inR];omega) | exact ble (by rfl) | exact SlR.some ‹_› (by omega));(conv=>whnf))
   refine KeyP.mk ⟨_,f1,W.mk ?_⟩
   (conv=>whnf)
   repeat' (refine ob ?_ ?_;(first | trivial | omega | (simp only [inR];omega) | exact ble (by rfl) | exact SlR.some ‹_› (by omega));(conv=>whnf))
   refine RoundP.of (i + 1,_,_) (HeadP.of [] ⟨rfl,rfl,rfl,rfl,trivial⟩ ⟨rfl,trivial⟩) ⟨hlt, ?_⟩ (by simp only;omega)
   dsimp only
   rw [hsuc]
   exact f3 ck
  ·exact FinP.mk rfl
end Go.Proofs.Ytefnikpoimaiiaa

namespace Go.Proofs.Ytefnikpoimaiiaa
open Go.Pal Go.RowKit
set_option maxRecDepth 100000
abbrev nl:Value:=.slice none 0 0
abbrev bef:Value:=.func (.func 177) #[] #[]
theorem und178:Try.prog.underlying 178 = some (.slice 213):=by kernel_rfl
theorem und9:Try.prog.underlying 9 = some .string:=by kernel_rfl
theorem pur_idxS {s:ByteArray} {i:Nat} {b:UInt8} (h:s[i]? = some b):∀ w,((POp.idx 9).sem [.string s,U (i:Int)]).run Try.prog w = .ok (U (b.toNat:Nat)) w:=fun w=>by
 have e1:(POp.idx 9).sem [.string s,U (i:Int)] = Instr.index 9 (.string s) (U (i:Int)):=rfl
 rw [e1]
 simp [Instr.index,run_underlying und9,asIntOf,h]
theorem clone175:Sound Try.prog 175 id (gsca (fun args _ (_:Unit)=>args = [nl]) fun _ v=>v = nl):=by
 refine comp175.gsca (Tab.nil _) (fun args G s h=>?_) (fun args G x h=>?_)
 ·obtain rfl:=h;simp
 ·obtain rfl:=h
  (conv=>whnf)
  refine PurP.of _ (pur_sl_nil und178 none 0 0 0 0) (W.mk ?_)
  (conv=>whnf)
  refine ForkP.mk (fun _=>W.mk ?_) (fun h=>by cases h)
  (conv=>whnf)
  exact FinP.mk rfl
theorem len214:Sound Try.prog 214 id (gsca (fun args _ (_:Unit)=>args = [.int .u64 0]) fun _ v=>v = I 0):=by
 refine comp214.gsca (Tab.nil _) (fun args G s h=>?_) (fun args G x h=>?_)
 ·obtain rfl:=h;simp
 ·obtain rfl:=h
  (conv=>whnf)
  refine IteP.mk (fun h=>by exfalso;omega) (fun _=>W.mk ?_)
  (conv=>whnf)
  refine IteP.mk (fun h=>by exfalso;omega) (fun _=>W.mk ?_)
  (conv=>whnf)
  refine IteP.mk (fun h=>by exfalso;omega) (fun _=>W.mk ?_)
  (conv=>whnf)
  repeat' (refine ob ?_ ?_;(first | trivial | omega | (simp only [inR];omega) | exact ble (by rfl) | exact SlR.some ‹_› (by omega));(conv=>whnf))
  refine PurP.of (U 0) (pur_idxS (i:=0) (b:=0) (by rfl)) (W.mk ?_)
  (conv=>whnf)
  repeat' (refine ob ?_ ?_;(first | trivial | omega | (simp only [inR];omega) | exact ble (by rfl) | exact SlR.some ‹_› (by omega));(conv=>whnf))
  exact FinP.mk rfl
theorem len198:Sound Try.prog 198 id (gsca (fun args _ (_:Unit)=>args = [.int .u64 0]) fun _ v=>v = I 0):=by
 refine comp198.gsca (Tab.cons 214 _ len214 body214 (Tab.nil _)) (fun args G s h=>?_) (fun args G x h=>?_)
 ·obtain rfl:=h;simp
 ·obtain rfl:=h
  (conv=>whnf)
  refine ScaP.mk ⟨(),rfl⟩ (fun v hv=>W.mk ?_)
  obtain ⟨_,_,rfl⟩:=hv
  (conv=>whnf)
  exact FinP.mk rfl
theorem ins205:Sound Try.prog 205 id (gsca (fun args _ (_:Unit)=>args = [nl,I 0,I 0,bef]) fun _ v=>v = .tuple #[]):=by
 refine comp205.gsca (Tab.nil _) (fun args G s h=>?_) (fun args G f h=>?_)
 ·obtain rfl:=h;simp
 ·obtain rfl:=h
  (conv=>whnf)
  repeat' (refine ob ?_ ?_;(first | trivial | omega | (simp only [inR];omega) | exact ble (by rfl) | exact SlR.some ‹_› (by omega));(conv=>whnf))
  refine LoopP.of { α:=Unit,fr:=fun x=>[(2, .v (I 0)),(8, .v (I 1))],H:=fun _=>[],ok:=fun x _=>True,m:=fun x=>0 }
   () (HeadP.of [] ⟨rfl,rfl,trivial⟩ trivial) trivial (fun _=>⟨rfl,rfl⟩) (fun x G1 hg1 hx=>W.mk ?_)
  (conv=>whnf)
  refine IteP.mk (fun h=>absurd h (by decide)) (fun _=>W.mk ?_)
  (conv=>whnf)
  exact FinP.mk rfl
theorem pdq197:Sound Try.prog 197 id (gsca (fun args _ (_:Unit)=>args = [nl,I 0,I 0,I 0,bef]) fun _ v=>v = .tuple #[]):=by
 refine comp197.gsca (Tab.cons 205 _ ins205 body205 (Tab.nil _)) (fun args G s h=>?_) (fun args G f h=>?_)
 ·obtain rfl:=h;simp
 ·obtain rfl:=h
  (conv=>whnf)
  repeat' (refine ob ?_ ?_;(first | trivial | omega | (simp only [inR];omega) | exact ble (by rfl) | exact SlR.some ‹_› (by omega));(conv=>whnf))
  refine LoopP.of { α:=Unit,fr:=fun x=>[(0, .v nl),(1, .v (I 0)),(2, .v (I 0)),(4, .c (.val bef))],H:=fun _=>[],ok:=fun x _=>True,m:=fun x=>0 }
   () (HeadP.of [] ⟨rfl,rfl,rfl,rfl,trivial⟩ trivial) trivial (fun _=>⟨rfl,rfl⟩) (fun x G1 hg1 hx=>W.mk ?_)
  (conv=>whnf)
  repeat' (refine ob ?_ ?_;(first | trivial | omega | (simp only [inR];omega) | exact ble (by rfl) | exact SlR.some ‹_› (by omega));(conv=>whnf))
  refine IteP.mk (fun _=>W.mk ?_) (fun h=>absurd h (by decide))
  (conv=>whnf)
  refine ScaP.mk ⟨(),rfl⟩ (fun v hv=>W.mk ?_)
  obtain ⟨_,_,rfl⟩:=hv
  (conv=>whnf)
  exact FinP.mk rfl
theorem sort176:Sound Try.prog 176 id (gsca (fun args _ (_:Unit)=>args = [nl,bef]) fun _ v=>v = .tuple #[]):=by
 refine comp176.gsca (Tab.cons 198 _ len198 body198 (Tab.cons 197 _ pdq197 body197 (Tab.nil _))) (fun args G s h=>?_) (fun args G f h=>?_)
 ·obtain rfl:=h;simp
 ·obtain rfl:=h
  (conv=>whnf)
  repeat' (refine ob ?_ ?_;(first | trivial | omega | (simp only [inR];omega) | exact ble (by rfl) | exact SlR.some ‹_› (by omega));(conv=>whnf))
  refine ScaP.mk ⟨(),rfl⟩ (fun v hv=>W.mk ?_)
  obtain ⟨_,_,rfl⟩:=hv
  (conv=>whnf)
  refine ScaP.mk ⟨(),rfl⟩ (fun v hv=>W.mk ?_)
  obtain ⟨_,_,rfl⟩:=hv
  (conv=>whnf)
  exact FinP.mk rfl
def issC (G:Hp) (a b:Nat) (d:Int):Prop:=CellsAt G a 0 [nl]∧CellsAt G b 0 [I d]
def issS (a b:Nat) (d:Int):PSpec:=.seq (fun l args G Ys=>args = [.func (.yield l) #[] #[]]∧issC G a b d∧Ys = []) (fun _ _=>True)
theorem iss174 (a b:Nat) (d:Int):Sound Try.prog 174 (fun args=>(#[]:Array Value).toList++args++(#[.pointer (some ⟨a,0,none⟩), .pointer (some ⟨b,0,none⟩)]:Array Value).toList) (issS a b d):=by
 refine comp174.seq (Tab.cons 175 _ clone175 body175 (Tab.cons 176 _ sort176 body176 (Tab.nil _))) (fun l args G Ys h=>?_) (fun l Y k args G Ys h hseg=>?_)
 ·obtain ⟨rfl,_⟩:=h;simp
 ·obtain ⟨rfl,⟨h1,h2⟩,rfl⟩:=h
  (conv=>whnf)
  refine RdP.at h1 rfl (W.mk ?_)
  (conv=>whnf)
  refine ScaP.mk ⟨(),rfl⟩ (fun v hv=>W.mk ?_)
  obtain ⟨_,_,rfl⟩:=hv
  (conv=>whnf)
  refine ScaP.mk ⟨(),rfl⟩ (fun v hv=>W.mk ?_)
  obtain ⟨_,_,rfl⟩:=hv
  (conv=>whnf)
  refine LoopP.of { α:=Unit,fr:=fun x=>[(12, .v (I 0)),(13, .v (I 0)),(POS, .c (.pos k false))],H:=fun _=>[],ok:=fun x _=>True,m:=fun x=>0 }
   () (HeadP.of [] ⟨rfl,rfl,rfl,trivial⟩ trivial) trivial (fun _=>⟨rfl,rfl⟩) (fun x G1 hg1 hx=>W.mk ?_)
  (conv=>whnf)
  refine IteP.mk (fun h=>absurd h (by decide)) (fun _=>W.mk ?_)
  (conv=>whnf)
  exact FinP.mk ⟨trivial,fun _=>rfl⟩
def IssV (G:Hp) (v:Value) (d:Int):Prop:=∃ a b,v = .func (.func 174) #[] #[.pointer (some ⟨a,0,none⟩), .pointer (some ⟨b,0,none⟩)]∧issC G a b d
theorem IssV.grow {G G':Hp} (hg:Grow G G') {v:Value} {d:Int} (h:IssV G v d):IssV G' v d:=by
 obtain ⟨a,b,e,h1,h2⟩:=h
 exact ⟨a,b,e,h1.grow hg,h2.grow hg⟩
def issR:GRel Int:=fun args _ d=>args = [nl,I d]
theorem issOk:GOk issR:=⟨fun _ _ x y (h:_ = _) (h':_ = _)=>by rw [h] at h';simpa using h',fun _ _ _ _ _ h=>h⟩
theorem iss139:Sound Try.prog 139 id (grel issR fun d v G=>IssV G v d):=by
 refine comp139.grel (Tab.nil _) issOk (fun args G s h=>?_) (fun x v G G' hg h=>h.grow hg) (fun args G d h=>?_)
 ·obtain rfl:=h;simp
 ·obtain rfl:=h
  (conv=>whnf)
  refine NameP.mk (fun b0=>W.mk ?_)
  (conv=>whnf)
  refine NameP.mk (fun b1=>W.mk ?_)
  (conv=>whnf)
  refine PubAnyP.mk ⟨[0,1], ?_⟩
  (conv=>whnf)
  intro G1 hg1 _ h1
  (conv=>whnf)
  intro G2 hg2 _ h2
  refine W.mk ?_
  (conv=>whnf)
  exact FinP.mk ⟨b0,b1,rfl,h1.grow hg2,h2⟩
end Go.Proofs.Ytefnikpoimaiiaa

namespace Go.Proofs.Ytefnikpoimaiiaa
open Go.Pal Go.RowKit
set_option maxRecDepth 100000
theorem anch95:Sound Try.prog 95 id (gsca (fun args G V=>∃ v,args = [v,nl]∧VoV G v V∧VoOk V) fun _ v=>v = I 0):=by
 refine comp95.gsca (Tab.cons 94 _ pars94 body94 (Tab.cons 139 _ iss139 body139 (Tab.nil _))) (fun args G s h=>?_) (fun args G V h=>?_)
 ·obtain ⟨v,rfl,_⟩:=h;simp
 ·obtain ⟨_,rfl,⟨a,c,q,rfl,hV⟩,hok⟩:=h
  have hn:=hok.n
  dsimp only [voL]
  (conv=>whnf)
  refine RelP.g (ok1 voRd fun V=>V.ps.length≤1000) (x:=V) ⟨_,rfl,⟨_,_,_,rfl,hV⟩,by omega⟩ (Grow.refl _) (fun v G2 hg2 hq=>W.mk ?_)
  obtain ⟨pa,pn,pc,rfl,hl1,hl2⟩:=id hq
  have hlen:=hl1.len
  (conv=>whnf)
  refine LoopP.of { α:=Nat × Array MapEntry × Nat,fr:=fun x=>[(1, .v nl),(4, .c (.ptr 1 0)),(5, .c (.ptr 3 0)),(11, .v (.slice pa pn pc)),(12, .v (I pn)),(13, .v (I x.1))],H:=fun x=>[(1, .cells .anon [.val (I 0)] 41),(2, .map .anon x.2.1 x.2.2),(3, .cells .anon [.mref 2] 215)],ok:=fun x _=>x.1≤V.ps.length∧ISet Try.prog 3 x.2.1 (ancS V.ps x.1),m:=fun x=>V.ps.length - x.1 }
   (0, #[],0) (HeadP.of [] ⟨rfl,rfl,rfl,rfl,rfl,rfl,trivial⟩ ⟨rfl,rfl,rfl,trivial⟩) ⟨Nat.zero_le _,ISet.nil⟩ (fun _=>⟨rfl,rfl⟩) (fun x G3 hg3 hx=>W.mk ?_)
  obtain ⟨i,es,ck⟩:=x
  obtain ⟨hi,his⟩:=hx
  dsimp only at hi his
  have hl3:=SlR.grow (G:=G2) (G':=G3) (fun _ _ h=>h) hl1 hg3
  dsimp only
  (conv=>whnf)
  refine IteP.mk (fun hlt=>W.mk ?_) (fun hge=>W.mk ?_)<;>(conv=>whnf)
  ·have hlt:i < V.ps.length:=by omega
   have hc:=hl3.el hlt
   have hnew:=ancS_new hok.d hlt
   have hsuc:=ancS_succ (ps:=V.ps) hlt
   have hrg:=anc_rng hok hlt
   generalize V.ps[i] = y at hc hnew hsuc hrg
   obtain ⟨y,s⟩:=y
   have hc:CellsAt G3 (ab pa) (ao pa + i * 2) [I y, .string s]:=hc
   dsimp only at hnew hsuc hrg
   repeat' (first | (refine ob ?_ ?_;(first | trivial | omega | (simp only [inR];omega) | exact ble (by rfl) | exact SlR.some ‹_› (by omega));(conv=>whnf)) | (first | (refine ra ‹_› (by rfl) ?_;(conv=>whnf)) | (refine rb ‹_› (by rfl) ?_;(conv=>whnf)) | (refine rc ‹_› (by rfl) ?_;(conv=>whnf)) | (refine rd ‹_› (by rfl) ?_;(conv=>whnf))))
   obtain ⟨r,f1,f2,f3⟩:=ISet.find und3 his (x:=y) hrg
   refine KeyP.mk ⟨_,f1,W.mk ?_⟩
   (conv=>whnf)
   repeat' (refine ob ?_ ?_;(first | trivial | omega | (simp only [inR];omega) | exact ble (by rfl) | exact SlR.some ‹_› (by omega));(conv=>whnf))
   refine RoundP.of (i + 1,_,_) (HeadP.of [] ⟨rfl,rfl,rfl,rfl,rfl,rfl,trivial⟩ ⟨rfl,rfl,rfl,trivial⟩) ⟨hlt, ?_⟩ (by simp only;omega)
   dsimp only
   rw [hsuc]
   exact f3 ck
  ·refine RelP.g issOk (x:=(99999:Int)) rfl (Grow.refl _) (fun v G4 hg4 hq4=>W.mk ?_)
   obtain ⟨ba,bb,rfl,hic⟩:=hq4
   (conv=>whnf)
   refine RangeP.of [] { α:=Unit,fr:=[(4, .c (.ptr 1 0))],k:=fun _=>0,H:=fun _=>[(1, .cells .anon [.val (I 0)] 41)],ok:=fun _ _=>True }
    () (SoundFn.of body174 (iss174 ba bb 99999)) (fun l=>⟨rfl,hic,rfl⟩) (fun y hy=>by cases hy) rfl (HeadP.of [] ⟨rfl,trivial⟩ ⟨rfl,trivial⟩) trivial ⟨rfl,fun _=>rfl⟩ (fun _ _ _ _ h=>h)
    (fun x y G5 hg5 hx hy=>by simp at hy) (fun x G5 hg5 hx hk=>W.mk ?_)
   (conv=>whnf)
   exact FinP.mk rfl
theorem body93:HasBody Try.prog 93:=hasBody_of (by kernel_rfl)
theorem all92n:Sound Try.prog 92 id (.sca (fun args _=>args = [nl, .func (.func 93) #[] #[]]) fun _ _ v=>v = .bool true):=by
 have h0:Sound Try.prog 93 (fun args=>(#[]:Array Value).toList++args++(#[]:Array Value).toList) (.sca (fun _ _=>False) fun _ _ _=>True):=fun args G W _ h=>h.elim
 intro args G W hs ha
 have hnil:SlV erE G nl []:=⟨none,0,0,rfl,⟨rfl,Nat.le_refl _,fun h=>absurd rfl h,fun i hi=>absurd hi (Nat.not_lt_zero i)⟩,by decide⟩
 exact ((allT (all92 93 #[] #[] (fun _=>true) (fun _=>False) (fun _=>True) (fun _ _ _ h=>h) (SoundFn.of body93 (TestS.of h0 (fun x G hx _=>hx) (fun x G v hx _ _=>hx.elim)))) []) args G W hs ⟨trivial,nl,ha,hnil,fun x hx=>by cases hx⟩)
theorem check62:Sound Try.prog 62 id (gsca (fun args G V=>∃ v,args = [v,nl]∧VoV G v V∧VoOk V) fun _ v=>v = I 0):=by
 refine comp62.gsca (Tab.cons 91 _ check91 body91 (Tab.cons 92 _ all92n body92 (Tab.cons 94 _ pars94 body94 (Tab.cons 95 _ anch95 body95 (Tab.nil _))))) (fun args G s h=>?_) (fun args G V h=>?_)
 ·obtain ⟨v,rfl,_⟩:=h;simp
 ·obtain ⟨_,rfl,⟨a,c,q,rfl,hV⟩,hok⟩:=h
  have hn:=hok.n
  dsimp only [voL]
  (conv=>whnf)
  refine ScaP.g (ok1 voRd VoOk) (x:=V) ⟨_,rfl,⟨_,_,_,rfl,hV⟩,hok⟩ (fun v hv=>W.mk ?_)
  subst hv
  (conv=>whnf)
  refine IteP.mk (fun _=>W.mk ?_) (fun h=>absurd rfl h)
  (conv=>whnf)
  refine IteP.mk (fun h=>absurd h (by decide)) (fun _=>W.mk ?_)
  (conv=>whnf)
  refine ScaP.mk rfl (fun v hv=>W.mk ?_)
  subst hv
  (conv=>whnf)
  refine ForkP.mk (fun _=>W.mk ?_) (fun h=>by cases h)
  (conv=>whnf)
  refine RelP.g (ok1 voRd fun V=>V.ps.length≤1000) (x:=V) ⟨_,rfl,⟨_,_,_,rfl,hV⟩,by omega⟩ (Grow.refl _) (fun v G2 hg2 hq=>W.mk ?_)
  obtain ⟨pa,pn,pc,rfl,hl1,hl2⟩:=id hq
  have hlen:=hl1.len
  (conv=>whnf)
  refine LoopP.of { α:=Nat × Array MapEntry × Nat,fr:=fun x=>[(1, .v nl),(2, .c (.ptr 0 0)),(6, .c (.mref 19)),(7, .c (.mref 20)),(28, .v (.slice pa pn pc)),(29, .v (I pn)),(30, .v (I x.1))],H:=fun x=>[(0, .cells .anon ((voL a c V).map .val) 96),(19, .map .anon x.2.1 x.2.2),(20, .map .anon #[] 0)],ok:=fun x _=>x.1≤V.ps.length∧ISet Try.prog 3 x.2.1 (ancS V.ps x.1),m:=fun x=>V.ps.length - x.1 }
   (0, #[],0) (HeadP.of [] ⟨rfl,rfl,rfl,rfl,rfl,rfl,rfl,trivial⟩ ⟨rfl,rfl,rfl,trivial⟩) ⟨Nat.zero_le _,ISet.nil⟩ (fun _=>⟨rfl,rfl⟩) (fun x G3 hg3 hx=>W.mk ?_)
  obtain ⟨i,es,ck⟩:=x
  obtain ⟨hi,his⟩:=hx
  dsimp only at hi his
  have hl3:=SlR.grow (G:=G2) (G':=G3) (fun _ _ h=>h) hl1 hg3
  dsimp only [voL]
  (conv=>whnf)
  refine IteP.mk (fun hlt=>W.mk ?_) (fun hge=>W.mk ?_)<;>(conv=>whnf)
  ·have hlt:i < V.ps.length:=by omega
   have hc:=hl3.el hlt
   have hnew:=ancS_new hok.d hlt
   have hsuc:=ancS_succ (ps:=V.ps) hlt
   have hrg:=anc_rng hok hlt
   generalize V.ps[i] = y at hc hnew hsuc hrg
   obtain ⟨y,s⟩:=y
   have hc:CellsAt G3 (ab pa) (ao pa + i * 2) [I y, .string s]:=hc
   dsimp only at hnew hsuc hrg
   repeat' (first | (refine ob ?_ ?_;(first | trivial | omega | (simp only [inR];omega) | exact ble (by rfl) | exact SlR.some ‹_› (by omega));(conv=>whnf)) | (first | (refine ra ‹_› (by rfl) ?_;(conv=>whnf)) | (refine rb ‹_› (by rfl) ?_;(conv=>whnf)) | (refine rc ‹_› (by rfl) ?_;(conv=>whnf)) | (refine rd ‹_› (by rfl) ?_;(conv=>whnf))))
   obtain ⟨r,f1,f2,f3⟩:=ISet.find und3 his (x:=y) hrg
   refine KeyP.mk ⟨_,f1,W.mk ?_⟩
   (conv=>whnf)
   repeat' (refine ob ?_ ?_;(first | trivial | omega | (simp only [inR];omega) | exact ble (by rfl) | exact SlR.some ‹_› (by omega));(conv=>whnf))
   refine RoundP.of (i + 1,_,_) (HeadP.of [] ⟨rfl,rfl,rfl,rfl,rfl,rfl,rfl,trivial⟩ ⟨rfl,rfl,rfl,trivial⟩) ⟨hlt, ?_⟩ (by simp only;omega)
   dsimp only
   rw [hsuc]
   exact f3 ck
  ·refine LoopP.of { α:=Unit,fr:=fun x=>[(1, .v nl),(2, .c (.ptr 0 0)),(39, .v (I 0)),(40, .v (I 0))],H:=fun x=>[(0, .cells .anon ((voL a c V).map .val) 96)],ok:=fun x _=>True,m:=fun x=>0 }
    () (HeadP.of [] ⟨rfl,rfl,rfl,rfl,trivial⟩ ⟨rfl,trivial⟩) trivial (fun _=>⟨rfl,rfl⟩) (fun x G4 hg4 hx=>W.mk ?_)
   dsimp only [voL]
   (conv=>whnf)
   refine IteP.mk (fun h=>absurd h (by decide)) (fun _=>W.mk ?_)
   (conv=>whnf)
   refine ScaP.mk ⟨V,_,rfl,⟨_,_,_,rfl,((hV.grow hg2).grow hg3).grow hg4⟩,hok⟩ (fun v hv=>W.mk ?_)
   obtain ⟨_,_,rfl⟩:=hv
   (conv=>whnf)
   exact FinP.mk rfl
end Go.Proofs.Ytefnikpoimaiiaa

namespace Go.Proofs.Ytefnikpoimaiiaa
open Go.Pal Go.RowKit
set_option maxRecDepth 100000
def enE:El (Int × ByteArray):=⟨3,fun x=>[I x.1, .string x.2, .bool false],fun {x y} h=>by obtain ⟨_,_⟩:=x;obtain ⟨_,_⟩:=y;simp at h;simp [h],fun _=>rfl,fun _ v hv=>by simp at hv;rcases hv with rfl | rfl | rfl<;>rfl⟩
structure EdC (G:Hp) (b:Nat) (a:Option Addr) (c:Nat) (qa:Option Addr) (qc:Nat) (e:Value) (V:Vo):Prop where
 ce:CellsAt G b 0 (voL a c V++[.slice qa 1 qc])
 qs:qa = some ⟨ab qa,ao qa,none⟩
 qcp:1≤qc
 pe:CellsAt G (ab qa) (ao qa) [e]
 en:SlV enE G e V.ps
theorem EdC.grow {G G':Hp} (hg:Grow G G') {b:Nat} {a:Option Addr} {c:Nat} {qa:Option Addr} {qc:Nat} {e:Value} {V:Vo} (h:EdC G b a c qa qc e V):EdC G' b a c qa qc e V:=⟨h.ce.grow hg,h.qs,h.qcp,h.pe.grow hg,h.en.grow hg⟩
def EdV (G:Hp) (v:Value) (V:Vo):Prop:=∃ b a c qa qc e,v = .pointer (some ⟨b,0,none⟩)∧EdC G b a c qa qc e V
theorem EdV.grow {G G':Hp} (hg:Grow G G') {v:Value} {V:Vo} (h:EdV G v V):EdV G' v V:=by
 obtain ⟨b,a,c,qa,qc,e,h1,h2⟩:=h
 exact ⟨b,a,c,qa,qc,e,h1,h2.grow hg⟩
def aftR:GRel Vo:=fun args G V=>∃ v,args = [v,nl,I 0]∧VoV G v V∧VoOk V
theorem aftOk:GOk aftR:=⟨fun args G x y ⟨v,h1,h2,_⟩ ⟨v',h1',h2',_⟩=>by rw [h1] at h1';cases h1';exact h2.uniq h2',fun args G G' x hg ⟨v,h1,h2,h3⟩=>⟨v,h1,h2.grow hg,h3⟩⟩
theorem after96:Sound Try.prog 96 id (grel aftR fun V v G=>EdV G v V):=by
 refine comp96.grel (Tab.cons 139 _ iss139 body139 (Tab.nil _)) aftOk (fun args G s h=>?_) (fun x v G G' hg h=>h.grow hg) (fun args G V h=>?_)
 ·obtain ⟨v,rfl,_⟩:=h;simp
 ·obtain ⟨_,rfl,⟨a,c,q,rfl,hV⟩,hok⟩:=h
  obtain ⟨qa,qn,qc,rfl,hp1,hp2⟩:=id hV.pa
  have hn:=hok.n
  have had:=hV.ad
  have hcp:=hV.cp
  dsimp only [voL]
  (conv=>whnf)
  refine LoopP.of { α:=Nat × Nat × List Value,fr:=fun x=>[(1, .v nl),(2, .v (I 0)),(7, .c (.ptr 5 0)),(21, .v (.slice a 1 c)),(22, .v (I 1)),(23, .v (I x.1))],H:=fun x=>[(4, .cells .anon ((voL a c V).map .val++[.row 1 x.2.1]) 222),(5, .cells .anon [.ptr 4 0] 218),(1, .row none x.2.1 x.2.2 223 1)],ok:=fun x G'=>(x.1 = 0∧x.2.1 = 0∧x.2.2 = [])∨(x.1 = 1∧x.2.1 = 1∧∃ e,x.2.2 = [e]∧SlV enE G' e V.ps),m:=fun x=>1 - x.1 }
   (0,0,[]) (HeadP.of [(1,none)] ⟨rfl,rfl,rfl,rfl,rfl,rfl,trivial⟩ ⟨rfl,rfl,rfl,trivial⟩) (.inl ⟨rfl,rfl,rfl⟩) (fun _=>⟨rfl,rfl⟩) (fun x G1 hg1 hx=>W.mk ?_)
  obtain ⟨i,n,vs⟩:=x
  dsimp only at hx
  have hV1:=hV.grow hg1
  have hce:CellsAt G1 (ab a) (ao a + 0 * 2) [I 0, .slice qa qn qc]:=hV1.ce
  have hqn:=hp1.len
  dsimp only [voL]
  rcases hx with ⟨rfl,rfl,rfl⟩ | ⟨rfl,rfl,e,rfl,he⟩
  ·(conv=>whnf)
   refine IteP.mk (fun _=>W.mk ?_) (fun h=>absurd (show (0:Int) < 1 by decide) h)
   (conv=>whnf)
   repeat' (first | (refine ob ?_ ?_;(first | trivial | omega | (simp only [inR];omega) | exact ble (by rfl) | exact SlR.some ‹_› (by omega));(conv=>whnf)) | (first | (refine ra ‹_› (by rfl) ?_;(conv=>whnf)) | (refine rb ‹_› (by rfl) ?_;(conv=>whnf)) | (refine rc ‹_› (by rfl) ?_;(conv=>whnf)) | (refine rd ‹_› (by rfl) ?_;(conv=>whnf))))
   refine LoopP.of { α:=Nat × Nat × List Value,fr:=fun x=>[(1, .v nl),(2, .v (I 0)),(7, .c (.ptr 5 0)),(21, .v (.slice a 1 c)),(22, .v (I 1)),(23, .v (I 0)),(10, .c (.row 2 x.2.1)),(28, .v (.slice qa qn qc)),(29, .v (I qn)),(30, .v (I x.1))],H:=fun x=>[(4, .cells .anon ((voL a c V).map .val++[.row 1 0]) 222),(5, .cells .anon [.ptr 4 0] 218),(1, .row none 0 [] 223 1),(2, .row none x.2.1 x.2.2 225 3)],ok:=fun x _=>x.1≤V.ps.length∧Row enE (V.ps.take x.1) x.2.1 x.2.2,m:=fun x=>V.ps.length - x.1 }
    (0,0,[]) (HeadP.of [(2,none)] ⟨rfl,rfl,rfl,rfl,rfl,rfl,rfl,rfl,rfl,rfl,trivial⟩ ⟨rfl,rfl,rfl,rfl,trivial⟩) ⟨Nat.zero_le _,Row.nil⟩ (fun _=>⟨rfl,rfl⟩) (fun x G2 hg2 hx=>W.mk ?_)
   obtain ⟨k,n,vs⟩:=x
   obtain ⟨hk,hrow⟩:=hx
   dsimp only at hk hrow
   dsimp only [voL]
   have hl2:=SlR.grow (G:=G) (G':=G2) (fun _ _ h=>h) hp1 (hg1.trans hg2)
   have hrn:=hrow.n
   rw [List.length_take] at hrn
   (conv=>whnf)
   refine IteP.mk (fun hlt=>W.mk ?_) (fun hge=>W.mk ?_)<;>(conv=>whnf)
   ·have hlt:k < V.ps.length:=by omega
    have hc:=hl2.el hlt
    have htk:=take_snoc (List.getElem?_eq_getElem hlt)
    generalize V.ps[k] = y at hc htk
    obtain ⟨y,s⟩:=y
    have hc:CellsAt G2 (ab qa) (ao qa + k * 2) [I y, .string s]:=hc
    repeat' (first | (refine ob ?_ ?_;(first | trivial | omega | (simp only [inR];omega) | exact ble (by rfl) | exact SlR.some ‹_› (by omega));(conv=>whnf)) | (first | (refine ra ‹_› (by rfl) ?_;(conv=>whnf)) | (refine rb ‹_› (by rfl) ?_;(conv=>whnf)) | (refine rc ‹_› (by rfl) ?_;(conv=>whnf)) | (refine rd ‹_› (by rfl) ?_;(conv=>whnf))))
    refine RoundP.of (k + 1,n + 1,_) (HeadP.of [(2,some 30)] ⟨rfl,rfl,rfl,rfl,rfl,rfl,rfl,rfl,rfl,rfl,trivial⟩ ⟨rfl,rfl,rfl,rfl,trivial⟩) ⟨hlt, ?_⟩ (by simp only;omega)
    dsimp only
    rw [htk]
    exact hrow.snoc (y,s)
   ·refine PubP.mk (fun a1 c1 G3 hg3 h3=>W.mk ?_)
    have hent:=hrow.pub h3 (by omega)
    have hkk:k = V.ps.length:=by omega
    subst hkk
    rw [List.take_length] at hent
    (conv=>whnf)
    refine DrawP.mk monoT_nil rfl (W.mk ?_)
    (conv=>whnf)
    repeat' (refine ob ?_ ?_;(first | trivial | omega | (simp only [inR];omega) | exact ble (by rfl) | exact SlR.some ‹_› (by omega));(conv=>whnf))
    exact RoundP.of (1,1,[.slice a1 n c1]) (HeadP.of [(1,some 41)] ⟨rfl,rfl,rfl,rfl,rfl,rfl,trivial⟩ ⟨rfl,rfl,rfl,trivial⟩) (.inr ⟨rfl,rfl,_,rfl,hent⟩) (by simp only;omega)
  ·(conv=>whnf)
   refine IteP.mk (fun h=>absurd h (by decide)) (fun _=>W.mk ?_)
   (conv=>whnf)
   refine RelP.g issOk (x:=(0:Int)) rfl (Grow.refl _) (fun v G4 hg4 hq4=>W.mk ?_)
   obtain ⟨ba,bb,rfl,hic⟩:=hq4
   (conv=>whnf)
   refine RangeP.of [] { α:=Unit,fr:=[(7, .c (.ptr 5 0))],k:=fun _=>0,H:=fun _=>[(4, .cells .anon ((voL a c V).map .val++[.row 1 1]) 222),(5, .cells .anon [.ptr 4 0] 218),(1, .row none 1 [e] 223 1)],ok:=fun _ _=>True }
    () (SoundFn.of body174 (iss174 ba bb 0)) (fun l=>⟨rfl,hic,rfl⟩) (fun y hy=>by cases hy) rfl (HeadP.of [] ⟨rfl,trivial⟩ ⟨rfl,rfl,rfl,trivial⟩) trivial ⟨rfl,fun _=>rfl⟩ (fun _ _ _ _ h=>h)
    (fun x y G5 hg5 hx hy=>by simp at hy) (fun x G5 hg5 hx hk=>W.mk ?_)
   dsimp only [voL]
   (conv=>whnf)
   refine PubP.mk (fun a2 c2 G6 hg6 h6=>W.mk ?_)
   (conv=>whnf)
   refine PubCP.mk (fun b G7 hg7 h7=>W.mk ?_)
   (conv=>whnf)
   exact FinP.mk ⟨b,a,c,a2,c2,e,rfl,h7,h6.some (by decide),h6.cap,h6.cells.grow hg7,((he.grow hg4).grow hg5).grow (hg6.trans hg7)⟩
end Go.Proofs.Ytefnikpoimaiiaa

namespace Go.Proofs.Ytefnikpoimaiiaa
open Go.Pal Go.RowKit
set_option maxRecDepth 100000
structure Pr where
 anc:Int
 col:Int
 line:Int
 n:Int
 day:Int
 num:Int
def prE:El Pr:=⟨6,fun x=>[I x.anc,I x.col,I x.line,I x.n,I x.day,I x.num],fun {x y} h=>by cases x;cases y;simp at h;simp [h],fun _=>rfl,fun _ v hv=>by simp at hv;rcases hv with rfl | rfl | rfl | rfl | rfl | rfl<;>rfl⟩
def lnN (s:ByteArray):Int:=((s.size:Int) + 10 - 1) / 10
def prF (h:Int):List (Int × ByteArray)→Int→Int→List Pr
 | [],_,_=>[]
 | p :: r,L,m=>⟨p.1,1 + L / h,L % h + 1,lnN p.2,0,m + 1⟩ :: prF h r (L + lnN p.2) (m + 1)
theorem lnN_rng {s:ByteArray} (h:TxOk s):1≤lnN s∧lnN s≤20:=by
 have:=h.n
 unfold lnN
 omega
def prR:GRel Vo:=fun args G V=>∃ v,args = [v,nl]∧VoV G v V∧VoOk V
theorem prOk:GOk prR:=⟨fun args G x y ⟨v,h1,h2,_⟩ ⟨v',h1',h2',_⟩=>by rw [h1] at h1';cases h1';exact h2.uniq h2',fun args G G' x hg ⟨v,h1,h2,h3⟩=>⟨v,h1,h2.grow hg,h3⟩⟩
theorem print63:Sound Try.prog 63 id (gown 183 6 prR fun V n vs=>Row prE (prF V.h V.ps 0 0) n vs):=by
 refine comp63.gown (Tab.cons 96 _ after96 body96 (Tab.nil _)) prOk (fun args G s h=>?_) (fun args G V h=>?_)
 ·obtain ⟨v,rfl,_⟩:=h;simp
 ·obtain ⟨_,rfl,⟨a,c,q,rfl,hV⟩,hok⟩:=h
  obtain ⟨qa,qn,qc,rfl,hp1,hp2⟩:=id hV.pa
  have hn:=hok.n
  have hh:=hok.h
  have had:=hV.ad
  have hcp:=hV.cp
  dsimp only [voL]
  (conv=>whnf)
  refine RelP.g aftOk (x:=V) ⟨_,rfl,⟨_,_,_,rfl,hV⟩,hok⟩ (Grow.refl _) (fun v G1 hg1 hq=>W.mk ?_)
  obtain ⟨eb,ea,ec,pa,pc,e,rfl,hed⟩:=hq
  obtain ⟨na,nn,nc,rfl,he1,he2⟩:=id hed.en
  have hce:=hed.ce
  have hps:=hed.qs
  have hpcp:=hed.qcp
  (conv=>whnf)
  repeat' (first | (refine ob ?_ ?_;(first | trivial | omega | (simp only [inR];omega) | exact ble (by rfl) | exact SlR.some ‹_› (by omega));(conv=>whnf)) | (first | (refine ra ‹_› (by rfl) ?_;(conv=>whnf)) | (refine rb ‹_› (by rfl) ?_;(conv=>whnf)) | (refine rc ‹_› (by rfl) ?_;(conv=>whnf)) | (refine rd ‹_› (by rfl) ?_;(conv=>whnf))))
  refine LoopP.of { α:=Nat × Int × Nat × List Value,fr:=fun x=>[(2, .c (.ptr 0 0)),(4, .c (.row 1 x.2.2.1)),(6, .v (I x.2.1)),(22, .v (.slice pa 1 pc)),(23, .v (I 1)),(24, .v (I x.1))],H:=fun x=>[(0, .cells .anon ((voL a c V).map .val) 96),(1, .row none x.2.2.1 x.2.2.2 183 6)],ok:=fun x _=>(x.1 = 0∧x.2.1 = 1∧x.2.2.1 = 0∧x.2.2.2 = [])∨(x.1 = 1∧Row prE (prF V.h V.ps 0 0) x.2.2.1 x.2.2.2),m:=fun x=>1 - x.1 }
   (0,1,0,[]) (HeadP.of [(1,none)] ⟨rfl,rfl,rfl,rfl,rfl,rfl,trivial⟩ ⟨rfl,rfl,trivial⟩) (.inl ⟨rfl,rfl,rfl,rfl⟩) (fun _=>⟨rfl,rfl⟩) (fun x G2 hg2 hx=>W.mk ?_)
  obtain ⟨i,col,n,vs⟩:=x
  dsimp only at hx
  have hpe:=hed.pe.grow hg2
  have hent:=(SlR.grow (G:=G1) (G':=G2) (fun _ _ h=>h) he1 hg2)
  have hlen:=he1.len
  dsimp only [voL]
  rcases hx with ⟨rfl,rfl,rfl,rfl⟩ | ⟨rfl,hrow⟩
  ·have hpe:CellsAt G2 (ab pa) (ao pa + 0 * 1) [.slice na nn nc]:=hpe
   (conv=>whnf)
   refine IteP.mk (fun _=>W.mk ?_) (fun h=>absurd (show (0:Int) < 1 by decide) h)
   (conv=>whnf)
   repeat' (first | (refine ob ?_ ?_;(first | trivial | omega | (simp only [inR];omega) | exact ble (by rfl) | exact SlR.some ‹_› (by omega));(conv=>whnf)) | (first | (refine ra ‹_› (by rfl) ?_;(conv=>whnf)) | (refine rb ‹_› (by rfl) ?_;(conv=>whnf)) | (refine rc ‹_› (by rfl) ?_;(conv=>whnf)) | (refine rd ‹_› (by rfl) ?_;(conv=>whnf))))
   refine LoopP.of { α:=Nat × Int × List Pr × Nat × List Value,fr:=fun x=>[(2, .c (.ptr 0 0)),(4, .c (.row 1 x.2.2.2.1)),(6, .v (I 1)),(7, .v (I 0)),(9, .v (I x.2.1)),(10, .v (I x.1)),(22, .v (.slice pa 1 pc)),(23, .v (I 1)),(24, .v (I 0)),(29, .v (.slice na nn nc)),(30, .v (I nn)),(31, .v (I x.1))],H:=fun x=>[(0, .cells .anon ((voL a c V).map .val) 96),(1, .row none x.2.2.2.1 x.2.2.2.2 183 6)],ok:=fun x _=>x.1≤V.ps.length∧0≤x.2.1∧x.2.1≤20 * x.1∧Row prE x.2.2.1 x.2.2.2.1 x.2.2.2.2∧x.2.2.1.length = x.1∧x.2.2.1++prF V.h (V.ps.drop x.1) x.2.1 x.1 = prF V.h V.ps 0 0,m:=fun x=>V.ps.length - x.1 }
    (0,0,[],0,[]) (HeadP.of [] ⟨rfl,rfl,rfl,rfl,rfl,rfl,rfl,rfl,rfl,rfl,rfl,rfl,trivial⟩ ⟨rfl,rfl,trivial⟩) ⟨Nat.zero_le _,Int.le_refl _,Int.le_refl _,Row.nil,rfl,rfl⟩ (fun _=>⟨rfl,rfl⟩) (fun x G3 hg3 hx=>W.mk ?_)
   obtain ⟨k,L,out,n,vs⟩:=x
   obtain ⟨hk,hL0,hL1,hrow,hol,hout⟩:=hx
   dsimp only at hk hL0 hL1 hrow hol hout
   dsimp only [voL]
   have hl3:=SlR.grow (G:=G2) (G':=G3) (fun _ _ h=>h) hent hg3
   have hrn:=hrow.n
   have hV3:=((hV.grow hg1).grow hg2).grow hg3
   have hvc:CellsAt G3 (ab a) (ao a + 0 * 2) [I 0, .slice qa qn qc]:=hV3.ce
   (conv=>whnf)
   refine IteP.mk (fun hlt=>W.mk ?_) (fun hge=>W.mk ?_)<;>(conv=>whnf)
   ·have hlt:k < V.ps.length:=by omega
    have hc:=hl3.el hlt
    have hpok:=hok.p _ (List.getElem_mem hlt)
    rw [List.drop_eq_getElem_cons hlt,prF] at hout
    generalize V.ps[k] = y at hc hpok hout
    obtain ⟨y,s⟩:=y
    have hc:CellsAt G3 (ab na) (ao na + k * 3) [I y, .string s, .bool false]:=hc
    have hs:=hpok.t.n
    have hns:=lnN_rng hpok.t
    dsimp only at hs hns hout
    repeat' (first | (refine ob ?_ ?_;(first | trivial | omega | (simp only [inR];omega) | exact ble (by rfl) | exact SlR.some ‹_› (by omega));(conv=>whnf)) | (first | (refine ra ‹_› (by rfl) ?_;(conv=>whnf)) | (refine rb ‹_› (by rfl) ?_;(conv=>whnf)) | (refine rc ‹_› (by rfl) ?_;(conv=>whnf)) | (refine rd ‹_› (by rfl) ?_;(conv=>whnf))))
    refine ForkP.mk (fun h=>by cases h) (fun _=>W.mk ?_)
    (conv=>whnf)
    repeat' (first | (refine ob ?_ ?_;(first | trivial | omega | (simp only [inR];omega) | exact ble (by rfl) | exact SlR.some ‹_› (by omega));(conv=>whnf)) | (first | (refine ra ‹_› (by rfl) ?_;(conv=>whnf)) | (refine rb ‹_› (by rfl) ?_;(conv=>whnf)) | (refine rc ‹_› (by rfl) ?_;(conv=>whnf)) | (refine rd ‹_› (by rfl) ?_;(conv=>whnf))))
    have hq0:=Int.ediv_nonneg (a:=L) (b:=V.h) (by omega) (by omega)
    have hq1:=Int.ediv_le_self V.h hL0
    have hr0:=Int.emod_nonneg L (b:=V.h) (by omega)
    have hr1:=Int.emod_lt_of_pos L (b:=V.h) (by omega)
    generalize hQ:L / V.h = Q at *
    repeat' (first | (refine ob ?_ ?_;(first | trivial | omega | (simp only [inR];omega) | exact ble (by rfl) | exact SlR.some ‹_› (by omega));(conv=>whnf)) | (first | (refine ra ‹_› (by rfl) ?_;(conv=>whnf)) | (refine rb ‹_› (by rfl) ?_;(conv=>whnf)) | (refine rc ‹_› (by rfl) ?_;(conv=>whnf)) | (refine rd ‹_› (by rfl) ?_;(conv=>whnf))))
    refine RoundP.of (k + 1,L + lnN s,out++[⟨y,1 + Q,L % V.h + 1,lnN s,0,(k:Int) + 1⟩],n + 1,_) (HeadP.of [(1,some 74)] ⟨rfl,rfl,rfl,rfl,rfl,rfl,rfl,rfl,rfl,rfl,rfl,rfl,trivial⟩ ⟨rfl,rfl,trivial⟩) ⟨hlt,by show 0≤L + lnN s;omega,by show L + lnN s≤20 * ((k + 1:Nat):Int);omega,hrow.snoc ⟨y,1 + Q,L % V.h + 1,lnN s,0,(k:Int) + 1⟩,by simp [hol], ?_⟩ (by simp only;omega)
    rw [← hout]
    simp
   ·repeat' (first | (refine ob ?_ ?_;(first | trivial | omega | (simp only [inR];omega) | exact ble (by rfl) | exact SlR.some ‹_› (by omega));(conv=>whnf)) | (first | (refine ra ‹_› (by rfl) ?_;(conv=>whnf)) | (refine rb ‹_› (by rfl) ?_;(conv=>whnf)) | (refine rc ‹_› (by rfl) ?_;(conv=>whnf)) | (refine rd ‹_› (by rfl) ?_;(conv=>whnf))))
    have hkk:k = V.ps.length:=by omega
    subst hkk
    have hq0:=Int.ediv_nonneg (a:=L + V.h - 1) (b:=V.h) (by omega) (by omega)
    have hq1:=Int.ediv_le_self V.h (show 0≤L + V.h - 1 by omega)
    generalize hQ:(L + V.h - 1) / V.h = Q at *
    repeat' (first | (refine ob ?_ ?_;(first | trivial | omega | (simp only [inR];omega) | exact ble (by rfl) | exact SlR.some ‹_› (by omega));(conv=>whnf)) | (first | (refine ra ‹_› (by rfl) ?_;(conv=>whnf)) | (refine rb ‹_› (by rfl) ?_;(conv=>whnf)) | (refine rc ‹_› (by rfl) ?_;(conv=>whnf)) | (refine rd ‹_› (by rfl) ?_;(conv=>whnf))))
    refine RoundP.of (1,1 + Q,n,vs) (HeadP.of [] ⟨rfl,rfl,rfl,rfl,rfl,rfl,trivial⟩ ⟨rfl,rfl,trivial⟩) (.inr ⟨rfl, ?_⟩) (by simp only;omega)
    rw [List.drop_length,prF,List.append_nil] at hout
    rw [← hout]
    exact hrow
  ·(conv=>whnf)
   refine IteP.mk (fun h=>absurd h (by decide)) (fun _=>W.mk ?_)
   (conv=>whnf)
   exact OwnFin.mk ⟨rfl,rfl,rfl,hrow⟩
end Go.Proofs.Ytefnikpoimaiiaa

namespace Go.Proofs.Ytefnikpoimaiiaa
open Go.Pal Go.RowKit
set_option maxRecDepth 100000
abbrev Pl:=Int × Int × Int × Int
def plE':El Pl:=⟨4,fun x=>[I x.1,I x.2.1,I x.2.2.1,I x.2.2.2],fun {x y} h=>by obtain ⟨_,_,_,_⟩:=x;obtain ⟨_,_,_,_⟩:=y;simp at h;simp [h],fun _=>rfl,fun _ v hv=>by simp at hv;rcases hv with rfl | rfl | rfl | rfl<;>rfl⟩
def plF (x:Pr):Pl:=(x.anc,x.col,x.line,x.n)
theorem prF_len (h:Int):∀ (ps:List (Int × ByteArray)) (L m:Int),(prF h ps L m).length = ps.length
 | [],_,_=>rfl
 | p :: r,L,m=>by rw [prF,List.length_cons,prF_len h r];rfl
theorem Print32:Sound Try.prog 32 id (grel prR fun V v G=>∃ w,v = .tuple #[w,I 0]∧SlV plE' G w ((prF V.h V.ps 0 0).map plF)):=by
 refine comp32.grel (Tab.cons 62 _ check62 body62 (Tab.cons 63 _ print63 body63 (Tab.nil _))) prOk (fun args G s h=>?_) (fun x v G G' hg ⟨w,h1,h2⟩=>⟨w,h1,h2.grow hg⟩) (fun args G V h=>?_)
 ·obtain ⟨v,rfl,_⟩:=h;simp
 ·obtain ⟨_,rfl,⟨a,c,q,rfl,hV⟩,hok⟩:=h
  dsimp only [voL]
  (conv=>whnf)
  refine ScaP.mk ⟨V,_,rfl,⟨_,_,_,rfl,hV⟩,hok⟩ (fun v hv=>W.mk ?_)
  obtain ⟨_,_,rfl⟩:=hv
  (conv=>whnf)
  refine IteP.mk (fun _=>W.mk ?_) (fun h=>absurd rfl h)
  (conv=>whnf)
  refine OwnP.g prOk (x:=V) ⟨_,rfl,⟨_,_,_,rfl,hV⟩,hok⟩ (Grow.refl _) (fun n1 vs1 G1 hg1 hr=>W.mk ?_)
  have hrn:=hr.n
  have hpn:(prF V.h V.ps 0 0).length≤20:=by rw [prF_len];exact hok.n
  generalize prF V.h V.ps 0 0 = ps at *
  (conv=>whnf)
  refine LoopP.of { α:=Nat × Nat × List Value,fr:=fun x=>[(7, .c (.row 1 x.2.1)),(18, .c (.row 2 n1)),(19, .v (I n1)),(20, .v (I x.1))],H:=fun x=>[(1, .row none x.2.1 x.2.2 112 4),(2, .row none n1 vs1 183 6)],ok:=fun x _=>x.1≤ps.length∧Row plE' ((ps.take x.1).map plF) x.2.1 x.2.2,m:=fun x=>ps.length - x.1 }
   (0,0,[]) (HeadP.of [(1,none),(2,some 15)] ⟨rfl,rfl,rfl,rfl,trivial⟩ ⟨rfl,rfl,trivial⟩) ⟨Nat.zero_le _,Row.nil⟩ (fun _=>⟨rfl,rfl⟩) (fun x G2 hg2 hx=>W.mk ?_)
  obtain ⟨k,n,vs⟩:=x
  obtain ⟨hk,hrow⟩:=hx
  dsimp only at hk hrow
  dsimp only
  have hn:=hrow.n
  rw [List.length_map,List.length_take] at hn
  (conv=>whnf)
  refine IteP.mk (fun hlt=>W.mk ?_) (fun hge=>W.mk ?_)<;>(conv=>whnf)
  ·have hlt:k < ps.length:=by omega
   have htk:=take_snoc (List.getElem?_eq_getElem hlt)
   repeat' (refine ob ?_ ?_;(first | trivial | omega | (simp only [inR];omega) | exact ble (by rfl) | exact SlR.some ‹_› (by omega));(conv=>whnf))
   refine EqP.row hr hlt (W.mk ?_)
   generalize ps[k] = y at htk
   (conv=>whnf)
   repeat' (refine ob ?_ ?_;(first | trivial | omega | (simp only [inR];omega) | exact ble (by rfl) | exact SlR.some ‹_› (by omega));(conv=>whnf))
   refine RoundP.of (k + 1,n + 1,_) (HeadP.of [(1,some 27)] ⟨rfl,rfl,rfl,rfl,trivial⟩ ⟨rfl,rfl,trivial⟩) ⟨hlt, ?_⟩ (by simp only;omega)
   dsimp only
   rw [htk,List.map_append]
   exact hrow.snoc (plF y)
  ·have hkk:k = ps.length:=by omega
   subst hkk
   rw [List.take_length] at hrow
   refine PubP.mk (fun a1 c1 G3 hg3 h3=>W.mk ?_)
   (conv=>whnf)
   exact FinP.mk ⟨_,rfl,hrow.pub h3 (by omega)⟩
end Go.Proofs.Ytefnikpoimaiiaa

namespace Go.Proofs.Ytefnikpoimaiiaa
open Go Go.Pal Go.RowKit
set_option maxRecDepth 100000
theorem eq4_run {P : Program} {t e : TypeId} (hu : (match P.underlying t with | some (.struct _) => true | _ => false) = true) (hf : (P.fieldsOf t).toList.map (fun f => (f.type, f.offset)) = [(e, 0), (e, 1), (e, 2), (e, 3)]) (hn : (P.fieldsOf t).toList.all (fun f => f.name != "_") = true) (he : P.underlying e = some (.int .i64)) (hz : szT P e = some 1)
  (hs:P.stoodInHeld t = false) (w:World) (a b c d a' b' c' d':Int):(Op.equalIn 10000 t (.agg #[I a,I b,I c,I d]) (.agg #[I a',I b',I c',I d'])).run P w = .ok (decide (a = a'∧b = b'∧c = c'∧d = d')) w:=by
 rw [show (10000:Nat) = 9999 + 1 from rfl,run_equalIn_struct w 9999 t _ _ (struct_of hu) hs]
 generalize (P.fieldsOf t).toList = fs at hf hn
 have hag:aggT P e = some false:=by simp [aggT,he]
 have hsz:=run_sizeOf' (P:=P) (W:=w) (t:=e) (n:=1) hz
 have hgg:=run_isAgg' (P:=P) (W:=w) (t:=e) (g:=false) hag
 obtain ⟨f1,f2,f3,f4,rfl⟩:∃ f1 f2 f3 f4,fs = [f1,f2,f3,f4]:=by
  have hl:=congrArg List.length hf
  simp only [List.length_map,List.length_cons,List.length_nil] at hl
  match fs,hl with
  | [f1,f2,f3,f4],_=>exact ⟨f1,f2,f3,f4,rfl⟩
 simp only [List.map_cons,List.map_nil,List.cons.injEq,Prod.mk.injEq,and_true] at hf
 obtain ⟨⟨t1,o1⟩,⟨t2,o2⟩,⟨t3,o3⟩,t4,o4⟩:=hf
 simp only [List.all_cons,List.all_nil,Bool.and_true,Bool.and_eq_true,bne_iff_ne,ne_eq] at hn
 have he1:=fun a b=>run_equalIn_int (P:=P) w 9998 e .i64 .i64 a b he
 simp only [Op.eqFields,t1,o1,t2,o2,t3,o3,t4,o4,hn.1,hn.2.1,hn.2.2.1,hn.2.2.2,ne_eq,not_false_eq_true,if_true]
 simp [part,hsz,hgg,he1,Result.andThen]
 by_cases h1:a = a'
 ·subst h1
  by_cases h2:b = b'
  ·subst h2
   by_cases h3:c = c'
   ·subst h3
    by_cases h4:d = d'
    ·subst h4;simp [he1]
    ·simp [he1,h4]
   ·simp [he1,h3]
  ·simp [he1,h2]
 ·simp [h1]
theorem pur_eq4 {P : Program} {t e : TypeId} (hu : (match P.underlying t with | some (.struct _) => true | _ => false) = true) (hf : (P.fieldsOf t).toList.map (fun f => (f.type, f.offset)) = [(e, 0), (e, 1), (e, 2), (e, 3)]) (hn : (P.fieldsOf t).toList.all (fun f => f.name != "_") = true) (he : P.underlying e = some (.int .i64)) (hz : szT P e = some 1)
  (hs:P.stoodInHeld t = false) (hg:P.eqGuardType P.depth t = false) (a b c d a' b' c' d':Int):∀ w,((POp.bin .eql t).sem [.agg #[I a,I b,I c,I d], .agg #[I a',I b',I c',I d']]).run P w = .ok (.bool (decide (a = a'∧b = b'∧c = c'∧d = d'))) w:=fun w=>by
 have e1:(POp.bin .eql t).sem [.agg #[I a,I b,I c,I d], .agg #[I a',I b',I c',I d']] = (do eqGuard .eql t (.tmp 0) (.tmp 0) (.agg #[I a,I b,I c,I d]) (.agg #[I a',I b',I c',I d']);binOp .eql t (.agg #[I a,I b,I c,I d]) (.agg #[I a',I b',I c',I d'])):=rfl
 rw [e1]
 simp [run_eqGuard_agg w .eql t _ _ _ _ hg,run_eql_struct,eq4_run hu hf hn he hz hs w,Result.andThen]
theorem eq112 (a b c d a' b' c' d':Int):∀ w,((POp.bin .eql 112).sem [.agg #[I a,I b,I c,I d], .agg #[I a',I b',I c',I d']]).run Try.prog w = .ok (.bool (decide (a = a'∧b = b'∧c = c'∧d = d'))) w :=
 pur_eq4 (e:=3) (by kernel_rfl) (by kernel_rfl) (by kernel_rfl) (by kernel_rfl) (by kernel_rfl) (by kernel_rfl) (by kernel_rfl) a b c d a' b' c' d'
def prayers:ByteArray:=ByteArray.mk #[80,114,97,121,101,114,115,46]
theorem prayersOk:VoOk ⟨2,[(4,prayers)]⟩:=⟨by decide,by decide,fun x hx=>by
 obtain rfl:=List.mem_singleton.1 hx
 exact ⟨by decide,by decide,by decide⟩,by decide⟩
theorem binds29:Sound Try.prog 29 id (gsca (fun args _ (_:Unit)=>args = []) fun _ v=>v = .bool true):=by
 refine comp29.gsca (Tab.cons 32 _ Print32 body32 (Tab.nil _)) (fun args G s h=>?_) (fun args G x h=>?_)
 ·obtain rfl:=h;simp
 ·obtain rfl:=h
  (conv=>whnf)
  refine PubP.mk (fun a1 c1 G1 hg1 h1=>W.mk ?_)
  have hps:SlV paE G1 (.slice a1 1 c1) [(4,prayers)]:=h1.slV rfl rfl (by decide)
  (conv=>whnf)
  refine PubP.mk (fun a2 c2 G2 hg2 h2=>W.mk ?_)
  have hV:VoC G2 a2 c2 (.slice a1 1 c1) ⟨2,[(4,prayers)]⟩:=⟨h2.cap,h2.some (by decide),h2.cells,hps.grow hg2⟩
  (conv=>whnf)
  refine RelP.g prOk (x:=⟨2,[(4,prayers)]⟩) ⟨_,rfl,⟨_,_,_,rfl,hV⟩,prayersOk⟩ (Grow.refl _) (fun v G3 hg3 hq=>W.mk ?_)
  obtain ⟨w,rfl,hw⟩:=hq
  have hw:SlV plE' G3 w [(4,1,1,1)]:=hw
  obtain ⟨wa,wn,wc,rfl,hw1,hw2⟩:=id hw
  have hlen:1 = wn:=hw1.len
  subst hlen
  have hc:CellsAt G3 (ab wa) (ao wa + 0 * 4) [I 4,I 1,I 1,I 1]:=hw1.el (i:=0) (by decide)
  (conv=>whnf)
  refine IteP.mk (fun _=>W.mk ?_) (fun h=>absurd rfl h)
  (conv=>whnf)
  refine IteP.mk (fun _=>W.mk ?_) (fun h=>absurd rfl h)
  (conv=>whnf)
  repeat' (first | (refine ob ?_ ?_;(first | trivial | omega | (simp only [inR];omega) | exact ble (by rfl) | exact SlR.some ‹_› (by omega));(conv=>whnf)) | (first | (refine ra ‹_› (by rfl) ?_;(conv=>whnf)) | (refine rb ‹_› (by rfl) ?_;(conv=>whnf)) | (refine rc ‹_› (by rfl) ?_;(conv=>whnf)) | (refine rd ‹_› (by rfl) ?_;(conv=>whnf))))
  refine PurP.of _ (eq112 4 1 1 1 4 1 1 1) (W.mk ?_)
  (conv=>whnf)
  refine ForkP.mk (fun _=>W.mk ?_) (fun h=>absurd h (by decide))
  (conv=>whnf)
  exact FinP.mk rfl
end Go.Proofs.Ytefnikpoimaiiaa

namespace Go.Proofs.Ytefnikpoimaiiaa
open Go.Pal Go.RowKit
set_option maxRecDepth 100000
structure Tw (G:Hp) (l r:List Sn) (w:Value):Prop where
 w:SlV spE G w (List.replicate l.length (1,1))
 n:r.length = l.length
 b:l.length≤20
theorem matched89:Sound Try.prog 89 id (gsca (fun args G (p:List Sn × List Sn)=>∃ v w,args = [v,w]∧TwV G v p∧Tw G p.1 p.2 w) fun _ v=>v = .bool true):=by
 refine comp89.gsca (Tab.cons 130 _ kinds130 body130 (Tab.cons 129 _ has129 body129 (Tab.cons 131 _ end131 body131 (Tab.nil _)))) (fun args G s h=>?_) (fun args G p h=>?_)
 ·obtain ⟨u,v,rfl,_⟩:=h;simp
 ·obtain ⟨l,r⟩:=p
  obtain ⟨v,w,rfl,⟨_,_,rfl,⟨a,n,c,rfl,hl,hn⟩,⟨a',n',c',rfl,hl',hn'⟩⟩,⟨⟨sa,sn,sc,rfl,hs,hsn⟩,hrn,hb⟩⟩:=h
  dsimp only at hl hl' hs hrn hb
  have hlen:=hl.len
  have hlen':=hl'.len
  have hslen:=hs.len
  rw [List.length_replicate] at hslen
  (conv=>whnf)
  refine LoopP.of { α:=Nat × Unit,fr:=fun x=>[(2, .c (.ptr 0 0)),(5, .c (.ptr 3 0)),(9, .v (.slice sa sn sc)),(10, .v (I sn)),(11, .v (I x.1))],H:=fun x=>[(0, .cells .anon [.val (.slice a n c), .val (.slice a' n' c')] 165),(3, .cells .anon [.val (I x.1), .val (I x.1)] 169)],ok:=fun x _=>x.1≤l.length,m:=fun x=>l.length - x.1 }
   (0,()) (HeadP.of [] ⟨rfl,rfl,rfl,rfl,rfl,trivial⟩ ⟨rfl,rfl,trivial⟩) (Nat.zero_le _) (fun _=>⟨rfl,rfl⟩) (fun x G1 hg1 hx=>W.mk ?_)
  obtain ⟨i,_⟩:=x
  have hi:i≤l.length:=hx
  replace hs:=SlR.grow (G:=G) (G':=G1) (fun _ _ h=>h) hs hg1
  dsimp only
  (conv=>whnf)
  refine IteP.mk (fun hlt=>W.mk ?_) (fun hge=>W.mk ?_)<;>(conv=>whnf)
  ·have hlt:i < l.length:=by omega
   have hc:=hs.el (i:=i) (by rw [List.length_replicate];exact hlt)
   rw [List.getElem_replicate] at hc
   have hc:CellsAt G1 (ab sa) (ao sa + i * 2) [I 1,I 1]:=hc
   repeat' (first | (refine ob ?_ ?_;(first | trivial | omega | (simp only [inR];omega) | exact ble (by rfl) | exact SlR.some ‹_› (by omega));(conv=>whnf)) | (first | (refine ra ‹_› (by rfl) ?_;(conv=>whnf)) | (refine rb ‹_› (by rfl) ?_;(conv=>whnf)) | (refine rc ‹_› (by rfl) ?_;(conv=>whnf)) | (refine rd ‹_› (by rfl) ?_;(conv=>whnf))))
   refine RelP.g okU (x:=()) rfl (Grow.refl _) (fun v G2 hg2 hq=>W.mk ?_)
   obtain ⟨ka,kn,kc,rfl,hk1,hk2⟩:=hq
   (conv=>whnf)
   refine ScaP.g (ok2 (slRd spE) spRd fun _ _=>True) (x:=(kindsL,(1,1))) ⟨_,_,rfl,⟨_,_,_,rfl,hk1,hk2⟩,rfl,trivial⟩ (fun v hv=>W.mk ?_)
   subst hv
   dsimp only
   (conv=>whnf)
   refine ForkP.mk (fun _=>W.mk ?_) (fun h=>absurd h (by decide))
   (conv=>whnf)
   repeat' (refine ob ?_ ?_;(first | trivial | omega | (simp only [inR];omega) | exact ble (by rfl) | exact SlR.some ‹_› (by omega));(conv=>whnf))
   refine IteP.mk (fun h=>absurd h (by omega)) (fun _=>W.mk ?_)
   (conv=>whnf)
   refine IteP.mk (fun h=>absurd h (by omega)) (fun _=>W.mk ?_)
   (conv=>whnf)
   (refine ob ?_ ?_;(first | trivial | omega | (simp only [inR];omega) | exact ble (by rfl) | exact SlR.some ‹_› (by omega));(conv=>whnf))
   refine RoundP.of (i + 1,()) (HeadP.of [] ⟨rfl,rfl,rfl,rfl,rfl,trivial⟩ ⟨rfl,rfl,trivial⟩) hlt (by simp only;omega)
  ·have hie:i = l.length:=by omega
   subst hie
   refine ScaP.g (ok1 twRd fun _=>True) (x:=(l,r)) ⟨_,rfl,⟨_,_,rfl,SnsV.grow hg1 ⟨_,_,_,rfl,hl,hn⟩,SnsV.grow hg1 ⟨_,_,_,rfl,hl',hn'⟩⟩,trivial⟩ (fun v hv=>W.mk ?_)
   subst hv
   dsimp only
   (conv=>whnf)
   refine PurP.of _ (eq169 _ _ _ _) (W.mk ?_)
   (conv=>whnf)
   refine ForkP.mk (fun _=>W.mk ?_) (fun h=>absurd h (by simp;omega))
   (conv=>whnf)
   exact FinP.mk rfl
def sumS (l:List Sn):Int:=(l.map (·.size)).sum
theorem sumS_bd {l:List Sn} (h:∀ w∈l,1≤w.size∧w.size≤200):0≤sumS l∧sumS l≤200 * l.length:=by
 induction l with
 | nil=>simp [sumS]
 | cons q t ih =>
  have h1:=ih fun w hw=>h w (by simp [hw])
  have h2:=h q (by simp)
  simp only [sumS,List.map_cons,List.sum_cons,List.length_cons] at h1 ⊢
  omega
def SzR:GRel (List Sn):=fun args G l=>∃ w,args = [.agg #[w]]∧SnsV G w l∧l.length≤20∧∀ x∈l,1≤x.size∧x.size≤200
theorem szOk:GOk SzR:=⟨fun _ _ x y ⟨w,h,h1,_⟩ ⟨w',h',h1',_⟩=>by
  rw [h] at h'
  simp only [List.cons.injEq,Value.agg.injEq,Array.mk.injEq,and_true] at h'
  subst h'
  exact snsRd.uniq h1 h1',fun _ _ _ _ hg ⟨w,h,h1,h2⟩=>⟨w,h,h1.grow hg,h2⟩⟩
theorem size60:Sound Try.prog 60 id (gsca SzR fun l v=>v = I (sumS l)):=by
 refine comp60.gsca (Tab.nil _) (fun args G s h=>?_) (fun args G l h=>?_)
 ·obtain ⟨w,rfl,_⟩:=h;simp
 ·obtain ⟨w,rfl,⟨a,n,c,rfl,hl,hn⟩,hb,hsz⟩:=h
  have hlen:=hl.len
  (conv=>whnf)
  refine LoopP.of { α:=Nat × Unit,fr:=fun x=>[(2, .v (I (sumS (l.take x.1)))),(6, .v (.slice a n c)),(7, .v (I n)),(8, .v (I x.1))],H:=fun _=>[],ok:=fun x _=>x.1≤l.length,m:=fun x=>l.length - x.1 }
   (0,()) (HeadP.of [] ⟨rfl,rfl,rfl,rfl,trivial⟩ trivial) (Nat.zero_le _) (fun _=>⟨rfl,rfl⟩) (fun x G1 hg1 hx=>W.mk ?_)
  obtain ⟨i,_⟩:=x
  have hi:i≤l.length:=hx
  have hw3:SlR 2 SnR G1 a n c l:=SlR.grow (fun _ _ h=>h.grow hg1) hl hg1
  dsimp only
  (conv=>whnf)
  refine IteP.mk (fun hlt=>W.mk ?_) (fun hge=>W.mk ?_)<;>(conv=>whnf)
  ·have hlt:i < l.length:=by omega
   obtain ⟨cs,_,hc,hd,rfl,ma,mn,mc,rfl,hm1,hm2⟩:=SlR.cells hw3 hlt
   have htk:=take_snoc (List.getElem?_eq_getElem hlt)
   have hzi:=hsz _ (List.getElem_mem hlt)
   have hbd:=sumS_bd (l:=l.take i) fun w hw=>hsz w (List.mem_of_mem_take hw)
   have hlt2:((l.take i).length:Int)≤20:=by simp;omega
   have hsum:sumS (l.take (i + 1)) = sumS (l.take i) + l[i].size:=by rw [htk,sumS,List.map_append,List.sum_append];simp [sumS]
   generalize l[i] = y at hc hzi hsum
   generalize sumS (l.take i) = N at hbd hsum
   repeat' (first | (refine ob ?_ ?_;(first | trivial | omega | (simp only [inR];omega) | exact ble (by rfl) | exact SlR.some ‹_› (by omega));(conv=>whnf)) | (first | (refine ra ‹_› (by rfl) ?_;(conv=>whnf)) | (refine rb ‹_› (by rfl) ?_;(conv=>whnf)) | (refine rc ‹_› (by rfl) ?_;(conv=>whnf)) | (refine rd ‹_› (by rfl) ?_;(conv=>whnf))))
   refine RoundP.of (i + 1,()) (HeadP.of [] ⟨by rw [hsum];rfl,rfl,rfl,rfl,trivial⟩ trivial) hlt (by simp only;omega)
  ·have:i = l.length:=by omega
   subst this
   rw [List.take_length]
   exact FinP.mk rfl
theorem match58:Sound Try.prog 58 id (gsca (fun args G (p:(List Sn × List Sn) × Value × Value)=>∃ w,args = [p.2.1,p.2.2,w]∧SnsV G p.2.1 p.1.1∧SnsV G p.2.2 p.1.2∧Tw G p.1.1 p.1.2 w∧faultS p.1.1 = 0∧faultS p.1.2 = 0) fun p v=>v = .tuple #[.agg #[p.2.1,p.2.2],I 0]):=by
 refine comp58.gsca (Tab.cons 88 _ check88 body88 (Tab.cons 89 _ matched89 body89 (Tab.nil _))) (fun args G s h=>?_) (fun args G p h=>?_)
 ·obtain ⟨w,rfl,_⟩:=h;simp
 ·obtain ⟨⟨l,r⟩,u,v⟩:=p
  obtain ⟨w,rfl,hu,hv,ht,hf,hf'⟩:=h
  dsimp only at hu hv ht hf hf' ⊢
  obtain ⟨a,n,c,rfl,_,_⟩:=id hu
  obtain ⟨a',n',c',rfl,_,_⟩:=id hv
  obtain ⟨sa,sn,sc,rfl,_,_⟩:=id ht.w
  (conv=>whnf)
  refine ScaP.g (ok2 snsRd snsRd fun l r=>faultS l = 0∧faultS r = 0) (x:=(l,r)) ⟨_,_,rfl,hu,hv,hf,hf'⟩ (fun v hv=>W.mk ?_)
  subst hv
  (conv=>whnf)
  refine IteP.mk (fun _=>W.mk ?_) (fun h=>absurd rfl h)
  (conv=>whnf)
  refine ScaP.mk ⟨(l,r),_,_,rfl,⟨_,_,rfl,hu,hv⟩,ht⟩ (fun v hv=>W.mk ?_)
  obtain ⟨_,_,hv⟩:=hv
  subst hv
  (conv=>whnf)
  refine ForkP.mk (fun _=>W.mk ?_) (fun h=>by cases h)
  (conv=>whnf)
  exact FinP.mk rfl
end Go.Proofs.Ytefnikpoimaiiaa

namespace Go.Proofs.Ytefnikpoimaiiaa
open Go.Pal Go.RowKit
set_option maxRecDepth 100000
def bl (p:Nat→Bool):List Value:=(List.range 1000).map fun i=>.bool (p i)
theorem z_bl:z1000 = bl fun _=>false:=by
 unfold z1000 bl
 rw [List.map_const',List.length_range]
theorem bl_len (p:Nat→Bool):(bl p).length = 1000:=by simp [bl]
theorem bl_set (s:Value) (p:Nat→Bool) (m:Nat) (hm:m < 1000):List.take (0 + 1 + m * 1) (List.map S1.val (s :: bl p))++[S1.val (.bool true)]++List.drop (0 + 1 + m * 1 + 1) (List.map S1.val (s :: bl p)) = List.map S1.val (s :: bl fun k=>decide (k = m) || p k):=by
 rw [Nat.mul_one,show 0 + 1 + m = m + 1 by omega]
 simp only [List.map_cons,List.take_succ_cons,List.drop_succ_cons,List.cons_append,List.cons.injEq,true_and]
 apply List.ext_getElem?
 intro k
 have hl:(List.map S1.val (bl p)).length = 1000:=by simp [bl]
 have hg:∀ q:Nat→Bool, ∀ j,(List.map S1.val (bl q))[j]? = if j < 1000 then some (S1.val (.bool (q j))) else none:=fun q j=>by
  by_cases hj:j < 1000
  ·rw [if_pos hj];simp [bl,hj]
  ·rw [if_neg hj,List.getElem?_eq_none (by rw [List.length_map,bl_len];omega)]
 rw [List.append_assoc]
 by_cases h1:k < m
 ·rw [List.getElem?_append_left (by rw [List.length_take,hl];omega),List.getElem?_take,if_pos h1,hg,hg]
  simp [show k≠m by omega]
 ·rw [List.getElem?_append_right (by rw [List.length_take,hl];omega),List.length_take,hl,show min m 1000 = m by omega]
  by_cases h2:k = m
  ·subst h2
   rw [Nat.sub_self,hg,if_pos hm];simp
  ·obtain ⟨d,rfl⟩:∃ d,k = m + 1 + d:=⟨k - m - 1,by omega⟩
   rw [show m + 1 + d - m = d + 1 by omega]
   show (List.drop (m + 1) (List.map S1.val (bl p)))[d]? = _
   rw [List.getElem?_drop,hg,hg]
   simp [show m + 1 + d≠m by omega]
structure Sd where
 a:Option Addr
 n:Nat
 c:Nat
 ws:List Sn
 i:Nat
def SdR:GRel Sd:=fun args G x=>args = [.agg #[.slice x.a x.n x.c],I x.i,I (x.i + 1)]∧SlR 2 SnR G x.a x.n x.c x.ws∧x.i < x.ws.length∧x.ws.length≤20∧∀ w∈x.ws,badS w = false
set_option maxHeartbeats 4000000 in
theorem side90:Sound Try.prog 90 id (gsca SdR fun x v=>∃ p,v = .agg (.slice (cutA x.a x.i x.c 2) 1 (x.c - x.i) :: bl p).toArray):=by
 refine comp90.gsca (Tab.nil _) (fun args G s h=>?_) (fun args G x h=>?_)
 ·obtain ⟨rfl,_⟩:=h;simp
 ·obtain ⟨a,n,c,ws,i⟩:=x
  obtain ⟨rfl,hl,hi,hb,hbad⟩:=h
  dsimp only at hl hi hb hbad ⊢
  have hlen:=hl.len
  have hcap:=hl.cap
  (conv=>whnf)
  have hs0:Value.slice (cutA a (i:Int).toNat (c:Int).toNat 2) (((i:Int) + 1).toNat - (i:Int).toNat) ((c:Int).toNat - (i:Int).toNat) = .slice (cutA a i c 2) 1 (c - i):=by
   rw [show ((i:Int) + 1).toNat = i + 1 by omega]
   show Value.slice (cutA a i c 2) (i + 1 - i) (c - i) = _
   rw [show i + 1 - i = 1 by omega]
  refine OblP.mk ⟨by omega,by omega,by omega,by omega⟩ (W.mk ?_)
  rw [hs0]
  (conv=>whnf)
  have hcl:∀ G1,Grow G G1→SlR 2 SnR G1 (cutA a i c 2) 1 (c - i) ((ws.take (i + 1)).drop i):=fun G1 hg=>by
   have:=SlR.cut (SlR.grow (fun _ _ h=>h.grow hg) hl hg) (b:=i) (m:=i + 1) (by omega) (by omega) (by omega) (by omega)
   rw [show i + 1 - i = 1 by omega] at this
   exact this
  refine LoopP.of { α:=Nat × (Nat→Bool),fr:=fun x=>[(6, .c (.ptr 1 0)),(7, .c (.ptr 9 0)),(21, .v (.slice (cutA a i c 2) 1 (c - i))),(22, .v (I 1)),(23, .v (I x.1))],H:=fun x=>[(1, .cells .anon ((.slice none 0 0 :: bl fun _=>false).map .val) 172),(9, .cells .anon ((.slice (cutA a i c 2) 1 (c - i) :: bl x.2).map .val) 172)],ok:=fun x _=>x.1≤1,m:=fun x=>1 - x.1 }
   (0,fun _=>false) (HeadP.of [] ⟨rfl,rfl,rfl,rfl,rfl,trivial⟩ ⟨by rw [← z_bl];rfl,by rw [← z_bl];rfl,trivial⟩) (Nat.zero_le _) (fun _=>⟨rfl,rfl⟩) (fun x G1 hg1 hx=>W.mk ?_)
  obtain ⟨k,p⟩:=x
  have hk:k≤1:=hx
  dsimp only
  (conv=>whnf)
  refine IteP.mk (fun hlt=>W.mk ?_) (fun hge=>W.mk ?_)<;>(conv=>whnf)
  ·obtain rfl:k = 0:=by omega
   have hc1:=hcl G1 hg1
   have hdl:(ws.take (i + 1)).drop i = [ws[i]]:=by
    rw [take_snoc (List.getElem?_eq_getElem hi),List.drop_append_of_le_length (by rw [List.length_take];omega),List.drop_of_length_le (by rw [List.length_take];omega),List.nil_append]
   rw [hdl] at hc1
   obtain ⟨cs,_,hc,hd,rfl,ma,mn,mc,rfl,hm1,hm2⟩:=SlR.cells hc1 (j:=0) (by simp)
   have hbw:=hbad _ (List.getElem_mem hi)
   simp only [badS,Bool.or_eq_false_iff,List.any_eq_false,badM,Bool.not_eq_true',Bool.not_eq_false] at hbw
   have hmk:=hbw.1
   rw [List.getElem_singleton] at hc hm1
   generalize ws[i] = w at hc hm1 hmk
   have hmn:=hm1.len
   have hc:CellsAt G1 (ab (cutA a i c 2)) (ao (cutA a i c 2) + 0 * 2) [.slice ma mn mc,I w.size]:=hc
   repeat' (first | (refine ob ?_ ?_;(first | trivial | omega | (simp only [inR];omega) | exact ble (by rfl) | exact SlR.some ‹_› (by omega));(conv=>whnf)) | (first | (refine ra ‹_› (by rfl) ?_;(conv=>whnf)) | (refine rb ‹_› (by rfl) ?_;(conv=>whnf)) | (refine rc ‹_› (by rfl) ?_;(conv=>whnf)) | (refine rd ‹_› (by rfl) ?_;(conv=>whnf))))
   refine LoopP.of { α:=Nat × (Nat→Bool),fr:=fun x=>[(6, .c (.ptr 1 0)),(7, .c (.ptr 9 0)),(21, .v (.slice (cutA a i c 2) 1 (c - i))),(22, .v (I 1)),(23, .v (I 0)),(28, .v (.slice ma mn mc)),(29, .v (I mn)),(30, .v (I x.1))],H:=fun x=>[(1, .cells .anon ((.slice none 0 0 :: bl fun _=>false).map .val) 172),(9, .cells .anon ((.slice (cutA a i c 2) 1 (c - i) :: bl x.2).map .val) 172)],ok:=fun x _=>x.1≤w.marks.length,m:=fun x=>w.marks.length - x.1 }
    (0,p) (HeadP.of [] ⟨rfl,rfl,rfl,rfl,rfl,rfl,rfl,rfl,trivial⟩ ⟨rfl,rfl,trivial⟩) (Nat.zero_le _) (fun _=>⟨rfl,rfl⟩) (fun x G2 hg2 hx2=>W.mk ?_)
   obtain ⟨j,p⟩:=x
   have hj:j≤w.marks.length:=hx2
   have hm3:=SlR.grow (G:=G1) (G':=G2) (fun _ _ h=>h) hm1 hg2
   dsimp only
   (conv=>whnf)
   refine IteP.mk (fun hjl=>W.mk ?_) (fun hjg=>W.mk ?_)<;>(conv=>whnf)
   ·have hjl:j < w.marks.length:=by omega
    have hcm:=hm3.el hjl
    have hin:=hmk _ (List.getElem_mem hjl)
    simp only [inF,decide_eq_true_eq] at hin
    generalize w.marks[j] = y at hcm hin
    repeat' (first | (refine ob ?_ ?_;(first | trivial | omega | (simp only [inR];omega) | exact ble (by rfl) | exact SlR.some ‹_› (by omega));(conv=>whnf)) | (first | (refine ra ‹_› (by rfl) ?_;(conv=>whnf)) | (refine rb ‹_› (by rfl) ?_;(conv=>whnf)) | (refine rc ‹_› (by rfl) ?_;(conv=>whnf)) | (refine rd ‹_› (by rfl) ?_;(conv=>whnf))))
    refine OblP.mk (by rw [List.length_map,List.length_cons,bl_len];omega) (W.mk ?_)
    refine den_set_eq (bl_set _ p y.toNat (by omega)) ?_
    (conv=>whnf)
    (refine ob ?_ ?_;(first | trivial | omega | (simp only [inR];omega) | exact ble (by rfl) | exact SlR.some ‹_› (by omega));(conv=>whnf))
    refine RoundP.of (j + 1,fun k=>decide (k = y.toNat) || p k) (HeadP.of [] ⟨rfl,rfl,rfl,rfl,rfl,rfl,rfl,rfl,trivial⟩ ⟨rfl,rfl,trivial⟩) hjl (by simp only;omega)
   ·(refine ob ?_ ?_;(first | trivial | omega | (simp only [inR];omega) | exact ble (by rfl) | exact SlR.some ‹_› (by omega));(conv=>whnf))
    refine RoundP.of (1,p) (HeadP.of [] ⟨rfl,rfl,rfl,rfl,rfl,trivial⟩ ⟨rfl,rfl,trivial⟩) (Nat.le_refl 1) (by simp only;omega)
  exact FinP.mk ⟨p,rfl⟩
end Go.Proofs.Ytefnikpoimaiiaa

namespace Go.Proofs.Ytefnikpoimaiiaa
open Go.Pal Go.RowKit
set_option maxRecDepth 100000
def sdV (x:Sd) (p:Nat→Bool):Value:=.agg (.slice (cutA x.a x.i x.c 2) 1 (x.c - x.i) :: bl p).toArray
structure Sides (args:List Value) (G:Hp) (x y:Sd):Prop where
 a:args = [.agg #[.slice x.a x.n x.c, .slice y.a y.n y.c], .agg #[I x.i,I x.i], .agg #[I 1,I 1]]
 i:y.i = x.i
 x:SdR [.agg #[.slice x.a x.n x.c],I x.i,I (x.i + 1)] G x
 y:SdR [.agg #[.slice y.a y.n y.c],I y.i,I (y.i + 1)] G y
set_option maxHeartbeats 4000000 in
theorem sides59:Sound Try.prog 59 id (gsca (fun args G (p:Sd × Sd)=>Sides args G p.1 p.2) fun p v=>∃ f g,v = .tuple #[sdV p.1 f,sdV p.2 g]):=by
 refine comp59.gsca (Tab.cons 90 _ side90 body90 (Tab.nil _)) (fun args G s h=>?_) (fun args G p h=>?_)
 ·rw [h.a];simp
 ·obtain ⟨⟨a,n,c,ws,i⟩,⟨a',n',c',ws',i'⟩⟩:=p
  obtain ⟨rfl,hii,hx,hy⟩:=h
  have hii:i' = i:=hii
  subst hii
  dsimp only at hx hy ⊢
  have hi:=hx.2.2.1
  have hb:=hx.2.2.2.1
  dsimp only at hi hb
  (conv=>whnf)
  refine OblP.mk (by simp only [inR];omega) (W.mk ?_)
  (conv=>whnf)
  refine ScaP.mk ⟨⟨a,n,c,ws,i'⟩,hx⟩ (fun v hv=>W.mk ?_)
  obtain ⟨⟨b,m,d,us,j⟩,⟨q1,_⟩,p,rfl⟩:=hv
  simp only [List.cons.injEq,Value.agg.injEq,Array.mk.injEq,Value.slice.injEq,Value.int.injEq,and_true,true_and] at q1
  obtain ⟨⟨rfl,rfl,rfl⟩,q2,_⟩:=q1
  obtain rfl:i' = j:=by omega
  dsimp only
  (conv=>whnf)
  refine OblP.mk (by simp only [inR];omega) (W.mk ?_)
  (conv=>whnf)
  refine ScaP.mk ⟨⟨a',n',c',ws',i'⟩,hy⟩ (fun v hv=>W.mk ?_)
  obtain ⟨⟨b,m,d,us,j⟩,⟨q1,_⟩,q,rfl⟩:=hv
  simp only [List.cons.injEq,Value.agg.injEq,Array.mk.injEq,Value.slice.injEq,Value.int.injEq,and_true,true_and] at q1
  obtain ⟨⟨rfl,rfl,rfl⟩,q2,_⟩:=q1
  obtain rfl:i' = j:=by omega
  dsimp only
  (conv=>whnf)
  exact FinP.mk ⟨p,q,rfl⟩
end Go.Proofs.Ytefnikpoimaiiaa

namespace Go.Proofs.Ytefnikpoimaiiaa
open Go.Pal Go.RowKit
set_option maxRecDepth 100000
def LvR:GRel (List Sn):=fun args G ws=>∃ u v w,args = [u,v,w]∧SnsV G u ws∧SnsV G v ws∧Tw G ws ws w∧faultS ws = 0
theorem lvOk:GOk LvR:=⟨fun _ _ x y ⟨u,v,w,h,h1,_⟩ ⟨u',v',w',h',h1',_⟩=>by
  rw [h] at h'
  simp only [List.cons.injEq,and_true] at h'
  obtain ⟨rfl,_⟩:=h'
  exact snsRd.uniq h1 h1',fun _ _ _ _ hg ⟨u,v,w,h,h1,h2,h3,h4⟩=>⟨u,v,w,h,h1.grow hg,h2.grow hg,⟨h3.w.grow hg,h3.n,h3.b⟩,h4⟩⟩
def beginsF (ws:List Sn):List Int:=(List.range ws.length).map fun i=>sumS (ws.take i)
set_option maxHeartbeats 4000000 in
theorem level30:Sound Try.prog 30 id (grel LvR fun ws v G=>∃ b,v = .tuple #[b,I (sumS ws),I 0,I 0]∧SlV intE G b (beginsF ws)):=by
 refine comp30.grel (Tab.cons 58 _ match58 body58 (Tab.cons 59 _ sides59 body59 (Tab.cons 60 _ size60 body60 (Tab.nil _)))) lvOk (fun args G s h=>?_) (fun x v G G' hg ⟨b,h1,h2⟩=>⟨b,h1,h2.grow hg⟩) (fun args G ws h=>?_)
 ·obtain ⟨u,v,w,rfl,_⟩:=h;simp
 ·obtain ⟨u,v,w,rfl,hu,hv,ht,hf⟩:=h
  obtain ⟨a,n,c,rfl,hl,hn⟩:=id hu
  obtain ⟨a',n',c',rfl,hl',hn'⟩:=id hv
  obtain ⟨sa,sn,sc,rfl,hs,hsn⟩:=id ht.w
  obtain ⟨hb,hmk,hbad⟩:=fault_ok hf
  have hlen:=hl.len
  have hlen':=hl'.len
  have hslen:=hs.len
  rw [List.length_replicate] at hslen
  have hsz:∀ w∈ws,1≤w.size∧w.size≤200:=fun w hw=>by
   have:=hbad w hw
   simp only [badS,Bool.or_eq_false_iff,Bool.not_eq_false',inF,decide_eq_true_eq] at this
   exact this.2.2
  (conv=>whnf)
  refine ScaP.mk ⟨((ws,ws), .slice a n c, .slice a' n' c'),_,rfl,hu,hv,ht,hf,hf⟩ (fun v hv=>W.mk ?_)
  obtain ⟨⟨_,u',v'⟩,⟨w',q1,_⟩,rfl⟩:=hv
  simp only [List.cons.injEq,and_true] at q1
  obtain ⟨rfl,rfl,rfl⟩:=q1
  dsimp only
  (conv=>whnf)
  refine IteP.mk (fun _=>W.mk ?_) (fun h=>absurd rfl h)
  (conv=>whnf)
  refine LoopP.of { α:=Nat × List Value,fr:=fun x=>[(6, .c (.row 15 x.1)),(7, .v (I (sumS (ws.take x.1)))),(8, .v (I 0)),(9, .v (I 0)),(10, .c (.ptr 11 0)),(11, .c (.ptr 22 0)),(28, .v (.slice sa sn sc)),(29, .v (I sn)),(30, .v (I x.1))],H:=fun x=>[(11, .cells .anon [.val (.slice a n c), .val (.slice a' n' c')] 165),(22, .cells .anon [.val (I x.1), .val (I x.1)] 169),(15, .row none x.1 x.2 3 1)],ok:=fun x _=>x.1≤ws.length∧Row intE ((List.range x.1).map fun i=>sumS (ws.take i)) x.1 x.2,m:=fun x=>ws.length - x.1 }
   (0,[]) (HeadP.of [(15,none)] ⟨rfl,rfl,rfl,rfl,rfl,rfl,rfl,rfl,rfl,trivial⟩ ⟨rfl,rfl,rfl,trivial⟩) ⟨Nat.zero_le _,Row.nil⟩ (fun _=>⟨rfl,rfl⟩) (fun x G1 hg1 hx=>W.mk ?_)
  obtain ⟨i,vs⟩:=x
  obtain ⟨hi,hrow⟩:=hx
  dsimp only at hi hrow
  replace hs:=SlR.grow (G:=G) (G':=G1) (fun _ _ h=>h) hs hg1
  dsimp only
  (conv=>whnf)
  refine IteP.mk (fun hlt=>W.mk ?_) (fun hge=>W.mk ?_)<;>(conv=>whnf)
  ·have hlt:i < ws.length:=by omega
   have hc:=hs.el (i:=i) (by rw [List.length_replicate];exact hlt)
   rw [List.getElem_replicate] at hc
   have hc:CellsAt G1 (ab sa) (ao sa + i * 2) [I 1,I 1]:=hc
   have hl1:SlR 2 SnR G1 a n c ws:=SlR.grow (fun _ _ h=>h.grow hg1) hl hg1
   have hl1':SlR 2 SnR G1 a' n' c' ws:=SlR.grow (fun _ _ h=>h.grow hg1) hl' hg1
   repeat' (first | (refine ob ?_ ?_;(first | trivial | omega | (simp only [inR];omega) | exact ble (by rfl) | exact SlR.some ‹_› (by omega));(conv=>whnf)) | (first | (refine ra ‹_› (by rfl) ?_;(conv=>whnf)) | (refine rb ‹_› (by rfl) ?_;(conv=>whnf)) | (refine rc ‹_› (by rfl) ?_;(conv=>whnf)) | (refine rd ‹_› (by rfl) ?_;(conv=>whnf))))
   refine ScaP.mk ⟨(⟨a,n,c,ws,i⟩,⟨a',n',c',ws,i⟩),rfl,rfl,⟨rfl,hl1,hlt,hb,hbad⟩,⟨rfl,hl1',hlt,hb,hbad⟩⟩ (fun v hv=>W.mk ?_)
   obtain ⟨⟨⟨xa,xn,xc,xw,xi⟩,⟨ya,yn,yc,yw,yi⟩⟩,hS,f,g,rfl⟩:=hv
   have q:=hS.a
   have q2:=hS.i
   dsimp only at q q2
   simp only [List.cons.injEq,Value.agg.injEq,Array.mk.injEq,Value.slice.injEq,Value.int.injEq,and_true,true_and,and_self] at q
   obtain ⟨⟨⟨rfl,rfl,rfl⟩,rfl,rfl,rfl⟩,q3⟩:=q
   obtain rfl:i = xi:=by omega
   obtain rfl:yi = i:=q2
   clear hS
   have hcut:∀ {a:Option Addr} {n c:Nat},SlR 2 SnR G1 a n c ws→SnsV G1 (.slice (cutA a yi c 2) 1 (c - yi)) [ws[yi]]:=fun {a n c} h=>by
    have hln:=h.len
    have hcp:=h.cap
    have h1:=SlR.cut h (b:=yi) (m:=yi + 1) (by omega) (by omega) (by omega) (by omega)
    rw [show yi + 1 - yi = 1 by omega,take_snoc (List.getElem?_eq_getElem hlt),List.drop_append_of_le_length (by rw [List.length_take];omega),List.drop_of_length_le (by rw [List.length_take];omega),List.nil_append] at h1
    exact ⟨_,_,_,rfl,h1,by decide⟩
   have hk1:=hcut hl1
   have hk2:=hcut hl1'
   have hz:=hsz _ (List.getElem_mem hlt)
   have hbd:=sumS_bd (l:=ws.take yi) fun w hw=>hsz w (List.mem_of_mem_take hw)
   have hlt2:((ws.take yi).length:Int)≤20:=by simp;omega
   have htk:=take_snoc (List.getElem?_eq_getElem hlt)
   have hsum:sumS (ws.take (yi + 1)) = sumS (ws.take yi) + ws[yi].size:=by rw [htk,sumS,List.map_append,List.sum_append];simp [sumS]
   have h1s:sumS [ws[yi]] = ws[yi].size:=by simp [sumS]
   have hrow2:=hrow.snoc (sumS (ws.take yi))
   have hrng:(List.range (yi + 1)).map (fun i=>sumS (ws.take i)) = (List.range yi).map (fun i=>sumS (ws.take i))++[sumS (ws.take yi)]:=by rw [List.range_succ,List.map_append];rfl
   rw [← hrng] at hrow2
   have hq1:SzR [.agg #[.slice (cutA a yi c 2) 1 (c - yi)]] G1 [ws[yi]]:=⟨_,rfl,hk1,by simp,fun x hx=>by simp at hx;rw [hx];exact hz⟩
   have hq2:SzR [.agg #[.slice (cutA a' yi c' 2) 1 (c' - yi)]] G1 [ws[yi]]:=⟨_,rfl,hk2,by simp,fun x hx=>by simp at hx;rw [hx];exact hz⟩
   generalize ws[yi] = w at hz hsum h1s hq1 hq2
   generalize sumS (ws.take yi) = N at hbd hsum hrow2
   dsimp only [sdV]
   (conv=>whnf)
   refine OblP.mk rfl (W.mk ?_)
   (conv=>whnf)
   refine OblP.mk rfl (W.mk ?_)
   (conv=>whnf)
   refine OblP.mk (by omega) (W.mk ?_)
   (conv=>whnf)
   refine ScaP.g szOk (x:=[w]) hq1 (fun v hv=>W.mk ?_)
   subst hv
   rw [h1s]
   (conv=>whnf)
   refine ScaP.g szOk (x:=[w]) hq2 (fun v hv=>W.mk ?_)
   subst hv
   rw [h1s]
   (conv=>whnf)
   have hmx:max w.size w.size = w.size:=by omega
   rw [hmx]
   repeat' (first | (refine ob ?_ ?_;(first | trivial | omega | (simp only [inR];omega) | exact ble (by rfl) | exact SlR.some ‹_› (by omega));(conv=>whnf)) | (refine OblP.mk (by simp only [inR];omega) (W.mk ?_);(conv=>whnf)))
   refine ScaP.g szOk (x:=[w]) hq1 (fun v hv=>W.mk ?_)
   subst hv
   rw [h1s]
   (conv=>whnf)
   repeat' (first | (refine ob ?_ ?_;(first | trivial | omega | (simp only [inR];omega) | exact ble (by rfl) | exact SlR.some ‹_› (by omega));(conv=>whnf)) | (refine OblP.mk (by simp only [inR];omega) (W.mk ?_);(conv=>whnf)))
   refine ScaP.g szOk (x:=[w]) hq2 (fun v hv=>W.mk ?_)
   subst hv
   rw [h1s]
   (conv=>whnf)
   repeat' (first | (refine ob ?_ ?_;(first | trivial | omega | (simp only [inR];omega) | exact ble (by rfl) | exact SlR.some ‹_› (by omega));(conv=>whnf)) | (refine OblP.mk (by simp only [inR];omega) (W.mk ?_);(conv=>whnf)))
   have h0:0 + 2 * w.size - w.size - w.size = 0:=by omega
   rw [h0]
   refine RoundP.of (yi + 1,vs++[I N]) (HeadP.of [(15,some 46)] ⟨rfl,by rw [hsum];rfl,rfl,rfl,rfl,rfl,rfl,rfl,rfl,trivial⟩ ⟨rfl,rfl,rfl,trivial⟩) ⟨hlt,hrow2⟩ (by simp only;omega)
  have hie:i = ws.length:=by omega
  subst hie
  refine PubP.mk (fun a1 c1 G4 hg4 h4=>W.mk ?_)
  (conv=>whnf)
  rw [List.take_length]
  refine FinP.mk ⟨_,rfl,hrow.pub h4 (by omega)⟩
end Go.Proofs.Ytefnikpoimaiiaa
