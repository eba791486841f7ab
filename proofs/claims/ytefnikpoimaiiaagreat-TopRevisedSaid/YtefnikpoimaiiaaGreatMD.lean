/- What is asked of code is enough: all of it. What is published; the results of a function; from what is asked of its code to its contract. Functions to which own blocks are lent: from what is asked of their code to their contracts. The intermediate forms of functions of the program (printed by a program of mine), each checked against the code. The intermediate forms of functions of the program (printed by a program of mine), each checked against the code. The intermediate forms of functions of the program (printed by a program of mine), each checked against the code. The intermediate forms of functions of the program (printed by a program of mine), each checked against the code. The intermediate forms of functions of the program (printed by a program of mine), each checked against the code. The intermediate forms of functions of the program (printed by a program of mine), each checked against the code. The intermediate forms of functions of the program (printed by a program of mine), each checked against the code. The intermediate forms of functions of the program (printed by a program of mine), each checked against the code. The intermediate forms of functions of the program (printed by a program of mine), each checked against the code. -/
import Derived.Test.YtefnikpoimaiiaaGreatMC
import Derived.RangeFuncNested
import Derived.Test.YtefnikpoimaiiaaGreatProg
import Derived.KernelRfl
set_option linter.unusedSimpArgs false
set_option linter.unusedVariables false
namespace Go.Pal
open Go.RowKit

section
variable {P:Program} {n:Nat}

theorem run_callFunc {f:FuncId} (hb:HasBody P f) (args:Array Value) (w:World):(callFunc f args).run P w = .ok (.enter f args) w:=by
 obtain ⟨fn,hf,hb,hn⟩:=hb
 have hn' : ¬ fn.name = "runtime.NumGoroutine" := by simpa using hn
 have hb':fn.body≠none:=by intro e;rw [e] at hb;cases hb
 simp [callFunc,hf,hb',hn']
def mkRec (fn:FuncId) (tmps:Array Value) (ps:Array Tmp) (x y:Code) (D:Nat) (st:LoopState) (pe:Option Code):Obj:=.loop { state:=st,pending:=pe,fn:=fn,tmps:=tmps,params:=ps,assign:=x,body:=y,defers:=D }

def J2 (A:Nat→Prop) (e:Env) (ds:List Deferred) (l:Nat) (o:Obj) (I:RInv) (G:Hp) (E:Nat→Value):JT:=fun k Hd G1 W1 =>
 ∃ x E1,I.k x = k∧I.ok x G1∧Grow G G1∧Agree A E E1∧Core e (I.pos x) ds l o E1 (HOf (I.H x)) Hd G1 W1
def J2x (A:Nat→Prop) (e:Env) (ds:List Deferred) (l:Nat) (o:Code→Obj) (fl:List (Nat × SV)) (K:Out→Nat→St→Prop) (G:Hp) (bd b2:Nat) (E:Nat→Value):JT:=fun _ Hd G1 W1 =>
 ∃ (ou:Out) (c:Code) (bd2:Nat) (H:Nat→Option OB) (E1:Nat→Value) (p:SV),posOk p = true∧((ou = .ret∧c = .ret)∨∃ id,ou = .exit id∧c = .exit id)∧(∀ G2,Grow G1 G2→K ou bd2 ⟨upd (frOf fl) POS p,H,G2⟩)∧bd≤bd2∧bd2≤b2∧(∀ h ob,H h = some ob→h < bd2∧ob.ment (· < bd2))∧Grow G G1∧Agree A E E1∧Core e p ds l (o c) E1 H Hd G1 W1

theorem J2_stable {A:Nat→Prop} {e:Env} (he:e.Ok P) {ds:List Deferred} {l:Nat} {o:Obj} {I:RInv} {G:Hp} {E:Nat→Value} (hm:∀ x G G',Grow G G'→I.ok x G→I.ok x G'):Stable (J2 A e ds l o I G E):=by
 rintro k Hd G1 W1 Hd' G2 W2 ⟨x,E1,h1,h2,h3,h4,h5⟩ s
 exact ⟨x,E1,h1,hm x _ _ s.grow h2,h3.trans s.grow,h4,h5.step he s⟩
theorem J2x_stable {A:Nat→Prop} {e:Env} (he:e.Ok P) {ds:List Deferred} {l:Nat} {o:Code→Obj} {fl:List (Nat × SV)} {K:Out→Nat→St→Prop} {G:Hp} {bd b2:Nat} {E:Nat→Value}:Stable (J2x A e ds l o fl K G bd b2 E):=by
 rintro k Hd G1 W1 Hd' G2 W2 ⟨ou,c,bd2,H,E1,p,h0,h1,h2,h3,h4,h5,h6,h7,h8⟩ s
 exact ⟨ou,c,bd2,H,E1,p,h0,h1,fun G3 hg=>h2 G3 (s.grow.trans hg),h3,h4,h5,h6.trans s.grow,h7,h8.step he s⟩

theorem zip_fold (ps:Array Nat) (ys:List Value) (tm:Array Value):(ps.zip ys.toArray).foldl (fun tmps (t,a)=>tmps.setIfInBounds t a) tm = (ps.toList.zip ys).foldl (fun t q=>t.setIfInBounds q.1 q.2) tm:=by
 rw [← Array.foldl_toList]
 simp [Array.toList_zip]

theorem HBd_all {b:Nat} {l:List (Nat × OB)} (h:HBd b l = true):∀ i ob,HOf l i = some ob→i < b∧ob.ment (· < b):=HBd_ment h
def RecOk (e:Env) (l0:Nat):Prop:=∀ sv Hd G W,e.at_ sv Hd G W→∃ r,W.heap[l0]? = some (.loop r)
theorem recOk_body {e:Env} {ds:List Deferred} {l:Nat} {Hd:Nat→Prop} {W1:World} (h:∃ r,W1.heap[l]? = some (.loop r)):∀ l0,some l = some l0→RecOk (bodyEnv e ds l Hd W1) l0:=by
 intro l0 e0 sv Hd' G W ha
 cases e0
 obtain ⟨_,h2⟩:=bodyEnv_at.1 ha
 obtain ⟨r,hr⟩:=h
 exact ⟨r,(h2 l (.inr (.inr rfl))).2.1.trans hr⟩
theorem updP_other:∀ (ps:List Nat) (ys:List Value) (fr:Nat→SV) {i:Nat},i ∉ ps→updP fr ps ys i = fr i
 | [],_,_,_,_=>rfl
 | _ :: _,[],_,_,_=>rfl
 | p :: ps,y :: ys,fr,i,h=>by
  simp only [List.mem_cons,not_or] at h
  show updP (upd fr p (SV.of y)) ps ys i = fr i
  rw [updP_other ps ys _ h.2,upd_other _ _ h.1]
theorem range_rounds {pb:List Nat} {A:Nat→Prop} {e:Env} (he:e.Ok P) {ds:List Deferred} {l D:Nat} {fn:FuncId} {a:Act} {ps:Array Tmp} {x y:Code} {ic jc:IC} {b b1 b2 bd:Nat} {E:Nat→Value} {G:Hp} {K:Out→Nat→St→Prop} {I:RInv} {Ys:List (List Value)} {tab:FuncId→Option PSpec}
  (ihx:∀ {W1:World} {Hd:Nat→Prop} {E1:Nat→Value} {σ:St} {a1:Act} {K:Out→Nat→St→Prop} {Q:Exit→Act→World→Prop},(∃ r,W1.heap[l]? = some (.loop r))→SatE (bodyEnv e ds l Hd W1) [] n bd A E1 σ a1 W1→vc P tab ⟨e.l,e.Y,mentFr I.fr++pb,none⟩ ic bd σ K→(∀ o bd' σ' a' W',K o bd' σ'→bd≤bd'→bd'≤b1→Grow σ.G σ'.G→SatE (bodyEnv e ds l Hd W1) [] n bd' A E1 σ' a' W'→Q (exitOf o) a' W')→x.wpIn (FW (some l)) 0 P Q a1 W1)
  (ihy:∀ {W1:World} {Hd:Nat→Prop} {E1:Nat→Value} {bd1:Nat} {σ:St} {a1:Act} {K:Out→Nat→St→Prop} {Q:Exit→Act→World→Prop},(∃ r,W1.heap[l]? = some (.loop r))→bd1≤b1→SatE (bodyEnv e ds l Hd W1) [] n bd1 A E1 σ a1 W1→vc P tab ⟨e.l,e.Y,mentFr I.fr++pb,none⟩ jc bd1 σ K→(∀ o bd' σ' a' W',K o bd' σ'→bd1≤bd'→bd'≤b2→Grow σ.G σ'.G→SatE (bodyEnv e ds l Hd W1) [] n bd' A E1 σ' a' W'→Q (exitOf o) a' W')→y.wpIn (FW (some l)) 0 P Q a1 W1)
  (hfb:frBd bd I.fr = true) (hpbd:∀ k,A k→k < bd) (hAm:∀ k∈mentFr I.fr,A k) (hAp:∀ k,A k→k∈mentFr I.fr++pb) (hfr:∀ i,(frOf I.fr i).rel E (a.tmps.getD i undef)) (hsz:a.tmps.size = n) (hps:∀ p∈ps.toList,p < n) (hlen:∀ y∈Ys,y.length = ps.toList.length) (hbd:∀ x,HBd bd (I.H x) = true)
  (hpo:∀ x,posOk (I.pos x) = true) (hpp:POS ∉ ps.toList)
  (hround:∀ x y G1,Grow G G1→I.ok x G1→Ys[I.k x]? = some y→W (vc P tab ⟨e.l,e.Y,mentFr I.fr++pb,none⟩ ic bd ⟨updP (upd (frOf I.fr) POS (I.pos x)) ps.toList y,HOf (I.H x),G1⟩ fun o bd' σ'=>match o with
    | .norm=>vc P tab ⟨e.l,e.Y,mentFr I.fr++pb,none⟩ jc bd' σ' fun o bd2 σ2=>match o with
     | .norm=>RoundR (mentFr I.fr++pb) I x σ2
     | .exit id=>cond (posOk (σ2.fr POS)) (ExitR σ2.G fun G=>K (.exit id) bd2 ⟨upd (frOf I.fr) POS (σ2.fr POS), σ2.H,G⟩) False
     | .ret=>cond (posOk (σ2.fr POS)) (ExitR σ2.G fun G=>K .ret bd2 ⟨upd (frOf I.fr) POS (σ2.fr POS), σ2.H,G⟩) False
    | _=>False)) :
  YieldOk P l Ys (J2 A e ds l (mkRec fn a.tmps ps x y D .ready none) I G E) (J2x A e ds l (fun c=>mkRec fn a.tmps ps x y D .done (some c)) I.fr K G bd b2 E):=by
 rintro k args Hd G1 W1 hY ⟨x0,E1,hk,hok,hgr,hag,core⟩ hsub hHd
 have hal:args.length = ps.size:=by rw [hlen args (List.mem_of_getElem? hY)];simp
 have hy:=run_yield (P:=P) (args:=args.toArray) core.rec_.1 (by simpa using hal)
 refine ⟨fn,_,x,y,hy, ?_⟩
 have hm1:∀ i,(updP (upd (frOf I.fr) POS (I.pos x0)) ps.toList args i).ment (· < bd):=updP_ment _ _ _ (fun i=>by
  by_cases hi:i = POS
  ·rw [hi,upd_same];exact posOk_ment (hpo x0) _
  ·rw [upd_other _ _ hi];exact frBd_ment hfb i)
 have hr1:=updP_rel (E:=E1) ps.toList args (upd (frOf I.fr) POS (I.pos x0)) a.tmps (fun p hp=>by rw [hsz];exact hps p hp) (fun i=>by
  by_cases hi:i = POS
  ·rw [hi,upd_same];exact posOk_rel (hpo x0) _ _
  ·rw [upd_other _ _ hi];exact SV.rel_agree (hfr i) (SV.ment_mono hAm (mentFr_ment (fun k hk=>hk) i)) hag)
 refine roundIn_of_wpIn (F:=Fence.wide) trivial ?_
 have hs1:=core.toBody he (n:=n) (bd:=bd) (fr:=updP (upd (frOf I.fr) POS (I.pos x0)) ps.toList args) (a:={ tmps:=(ps.zip args.toArray).foldl (fun tmps (t,a)=>tmps.setIfInBounds t a) a.tmps,defers:=[] }) hm1 (HBd_all (hbd x0)) (by rw [zip_fold];exact hr1.1) (by show Array.size _ = n;rw [zip_fold,hr1.2];exact hsz) rfl (M0:=A) hpbd (by rw [updP_other _ _ _ hpp,upd_same])
 refine ihx ⟨_,core.rec_.1⟩ hs1 (hround x0 args G1 hgr hok (by rw [hk];exact hY)).out ?_
 rintro o bd' σ' a' W' hk' hle' hle hg' hs'
 cases o with
 | exit id=>exact hk'.elim
 | ret=>exact hk'.elim
 | norm =>
  obtain ⟨M3,E3,m0,m1,m2,m3,core3,m4,m5,m6,m7,m9,m8⟩:=core.fromBody he hs'
  refine ⟨_,run_beginRound core3.rec_.1 rfl, ?_⟩
  have core4:=core3.setRec he (mkRec fn a.tmps ps x y D .busy none)
  have m8':∀ b,Hd b→(W'.putObj l (mkRec fn a.tmps ps x y D .busy none)).heap[b]? = W1.heap[b]?∧σ'.G b = none:=fun b hb=>⟨(World.putObj_heap_other (core3.hd b hb).2.1).trans (m8 b hb).1,(m8 b hb).2⟩
  -- the body's own view,of the world as it lies now
  have hs4:SatE (bodyEnv e ds l Hd (W'.putObj l (mkRec fn a.tmps ps x y D .busy none))) [] n bd' A E3 σ' a' (W'.putObj l (mkRec fn a.tmps ps x y D .busy none)):=by
   exact core4.toBody he (n:=n) (bd:=bd') (fr:=σ'.fr) (a:=a') (fun i=>SV.ment_mono m1 (m5 i)) (fun h ob e=>⟨m1 h (m4 h ob e).1,OB.ment_mono m1 (m4 h ob e).2⟩) m6 m7 m0 (fun k hk=>Nat.lt_of_lt_of_le (hpbd k hk) hle') rfl
  have hwp:=ihy (Q:=roundPost P l fun e_1 W'=>∃ st G',e_1 = Ending.returned (Value.bool !st)∧Grow G1 G'∧Sub G' W'∧(∀ b,Hd b→W'.heap[b]? = W1.heap[b]?∧G' b = none)∧W1.heap.size≤W'.heap.size ∧
    (cond st (J2x A e ds l (fun c=>mkRec fn a.tmps ps x y D .done (some c)) I.fr K G bd b2 E) (J2 A e ds l (mkRec fn a.tmps ps x y D .ready none) I G E)) (k + 1) Hd G' W') ⟨_,core4.rec_.1⟩ hle hs4 hk' ?_
  ·exact hwp
  rintro o bd2 σ2 a2 W2 hk2 hle2' hle2 hg2 hs2
  obtain ⟨M6,E6,n0,n1,n2,n3,core6,n4,n5,n6,n7,n9,n8⟩:=core4.fromBody he hs2
  have hkeep:∀ o', ∀ b,Hd b→(W2.putObj l o').heap[b]? = W1.heap[b]?∧σ2.G b = none:=fun o' b hb=>⟨(World.putObj_heap_other (core6.hd b hb).2.1).trans ((n8 b hb).1.trans (m8' b hb).1),(n8 b hb).2⟩
  have hgG:Grow G1 σ2.G:=hg'.trans hg2
  have hagE:Agree A E E6:=fun k hk=>(n3 k hk).trans ((m3 k hk).trans (hag k hk))
  have hsz:W1.heap.size≤W2.heap.size:=by rw [World.putObj_size] at n9;exact Nat.le_trans m9 n9
  have fin:∀ jump,(Instr.endRound l jump).run P W2 = .ok (.bool jump.isNone) (W2.putObj l (mkRec fn a.tmps ps x y D (if jump.isNone then .ready else .done) jump)):=fun jump=>run_endRound jump core6.rec_.1
  have exits:∀ (ou:Out) (c:Code),((ou = .ret∧c = .ret)∨∃ id,ou = .exit id∧c = .exit id)→cond (posOk (σ2.fr POS)) (ExitR σ2.G fun G=>K ou bd2 ⟨upd (frOf I.fr) POS (σ2.fr POS), σ2.H,G⟩) False →
    ∃ v w',(Instr.endRound l (some c)).run P W2 = .ok v w'∧∃ st G',Ending.returned v = Ending.returned (Value.bool !st)∧Grow G1 G'∧Sub G' w'∧(∀ b,Hd b→w'.heap[b]? = W1.heap[b]?∧G' b = none)∧W1.heap.size≤w'.heap.size ∧
     (cond st (J2x A e ds l (fun c=>mkRec fn a.tmps ps x y D .done (some c)) I.fr K G bd b2 E) (J2 A e ds l (mkRec fn a.tmps ps x y D .ready none) I G E)) (k + 1) Hd G' w':=fun ou c hc hx=>by
   cases hpk:posOk (σ2.fr POS) with
   | false=>rw [hpk] at hx;exact hx.elim
   | true =>
   rw [hpk] at hx
   have core7:=core6.setRec he (mkRec fn a.tmps ps x y D .done (some c))
   exact ⟨_,_,fin (some c),true, σ2.G,rfl,hgG,core7.sim.sub,hkeep _,by rw [World.putObj_size];exact hsz,ou,c,bd2, σ2.H,E6, σ2.fr POS,hpk,hc,fun G2 hg=>(hx.k G2 hg).out,Nat.le_trans hle' hle2',hle2,fun h ob e=>⟨n1 h (n4 h ob e).1,OB.ment_mono n1 (n4 h ob e).2⟩,hgr.trans hgG,hagE,core7⟩
  cases o with
  | ret=>exact exits .ret .ret (.inl ⟨rfl,rfl⟩) hk2
  | exit id=>exact exits (.exit id) (.exit id) (.inr ⟨id,rfl,rfl⟩) hk2
  | norm =>
   obtain ⟨x',⟨π,f1,f0,f4⟩,f2,f3,f5⟩:=hk2
   rw [f5] at core6
   have core7:=core6.setRec he (mkRec fn a.tmps ps x y D .ready none)
   have hsr:=core7.sim.ren f1 f0
   have core8:=core7.retell he hsr.1 (fun b ⟨h,ob,e1,e2⟩=>let ⟨h',ob',e3,e4⟩:=hsr.2 h ob b e1 e2;⟨h',ob',e3,e4⟩)
   have hag8:Agree A E (En E6 π):=fun k hk=>by
    have:En E6 π k = E6 k:=by unfold En;rw [avoid_spec f4 (hAp k hk)]
    rw [this];exact hagE k hk
   exact ⟨_,_,fin none,false, σ2.G,rfl,hgG,core8.sim.sub,hkeep _,by rw [World.putObj_size];exact hsz,x',En E6 π,by rw [f3,hk],f2,hgr.trans hgG,hag8,core8⟩
theorem vc_sound (T:Tab P):∀ (c:Code) {e:Env},e.Ok P→∀ {rd:Option Nat} {nn:Nat} {M0:Nat→Prop} {E0:Nat→Value} {ds:List Deferred} {ic:IC} {b b2 bd:Nat} {σ:St} {a:Act} {W:World} {K:Out→Nat→St→Prop} {Q:Exit→Act→World→Prop} {pb:List Nat},compC P n c b = some (ic,b2)→bd≤b→(∀ k,M0 k→k∈pb)→(∀ l0,rd = some l0→RecOk e l0) →
  SatE e ds n bd M0 E0 σ a W→vc P T.get ⟨e.l,e.Y,pb,e.pn⟩ ic bd σ K→(∀ t C,e.pn = some (t,C)→∀ bd' σ' a' W' ds' ch,(noRange ic = true∨rd≠none→ds' = ds)→C σ'→PanV t ch→Grow σ.G σ'.G→SatE e ds' n bd' M0 E0 σ' a' W'→bd≤bd'→bd'≤b2→Q (.panic ch) a' W')→(∀ o bd' σ' a' W' ds',(noRange ic = true∨rd≠none→ds' = ds)→K o bd' σ'→bd≤bd'→bd'≤b2→Grow σ.G σ'.G→SatE e ds' n bd' M0 E0 σ' a' W'→Q (exitOf o) a' W')→c.wpIn (FW rd) nn P Q a W:=by
 intro c
 induction c with
 | skip =>
  intro e he rd nn M0 E0 ds ic b b2 bd σ a W K Q pb hc hb hpb hrd hs hd hQ hq
  cases hc
  exact wpIn_skip (hq .norm bd σ a W ds (fun _=>rfl) hd (Nat.le_refl _) hb (Grow.refl _) hs)
 | exit id =>
  intro e he rd nn M0 E0 ds ic b b2 bd σ a W K Q pb hc hb hpb hrd hs hd hQ hq
  cases hc
  exact wpIn_exit (hq (.exit id) bd σ a W ds (fun _=>rfl) hd (Nat.le_refl _) hb (Grow.refl _) hs)
 | ret =>
  intro e he rd nn M0 E0 ds ic b b2 bd σ a W K Q pb hc hb hpb hrd hs hd hQ hq
  cases hc
  exact wpIn_ret (hq .ret bd σ a W ds (fun _=>rfl) hd (Nat.le_refl _) hb (Grow.refl _) hs)
 | scope x ih =>
  intro e he rd nn M0 E0 ds ic b b2 bd σ a W K Q pb hc hb hpb hrd hs hd hQ hq
  refine wpIn_scope (ih he hc hb hpb hrd hs hd hQ fun o bd' σ' a' W' ds' k0 k1 k2 k3 k4 k5=>?_)
  have:=hq o bd' σ' a' W' ds' k0 k1 k2 k3 k4 k5
  cases o<;>exact this
 | label l =>
  intro e he rd nn M0 E0 ds ic b b2 bd σ a W K Q pb hc hb hpb hrd hs hd hQ hq
  cases hc
  exact wpIn_label (hq .norm bd σ a W ds (fun _=>rfl) hd (Nat.le_refl _) hb (Grow.refl _) hs)
 | region id ops draw =>
  intro e he rd nn M0 E0 ds ic b b2 bd σ a W K Q pb hc hb hpb hrd hs hd hQ hq
  cases draw with
  | true =>
   simp only [compC] at hc
   split at hc
   case h_2=>cases hc
   rename_i ic' hic
   cases hc
   obtain ⟨all,ps,ns,hf,D,hlen,hall,⟨rfl,hpw⟩ | ⟨ms,rts,rfl⟩ | ⟨m,ys,rfl,how,hpA,hys⟩⟩:=compDraw_spec hic
   rotate_left
   ·obtain ⟨fr,H,G⟩:=σ
    simp only [vc] at hd
    cases hbb:Nat.ble bd b with
    | false=>rw [hbb] at hd;exact hd.elim
    | true =>
     rw [hbb] at hd
     obtain ⟨H0,G1,hd,hg1,hs1⟩:=hs.pub hd
     obtain ⟨fr,H0,hd,hs1⟩:=hs1.absN hd
     obtain ⟨H1,hd,hs2⟩:=hs1.nam hd
     have hd:=tellX_iff hd
     have hs2:=hs2.res (l:=bslSlots (all.map (·.2)))
     obtain ⟨r,G0,M,E,h0,h1,h2,h3,h4,h5,h6⟩:=hs2.ex
     obtain ⟨hmo,hpw,hd⟩:=hd
     have hd':=hd.out
     have hall':∀ p∈resA (resC (tellFr H1 (bslSlots (all.map (·.2))) fr) H1 (all.map (·.2))) rts all,p.2.hid = b + p.1∧p.1 < ops.size:=fun p hp=>by
      obtain ⟨t,q,hq,e⟩:=resA_mem hp
      rw [e]
      obtain ⟨k1,k2⟩:=hall q hq
      exact ⟨(resO_same _ t q.2).2.2.2.1.trans k1,k2⟩
     refine draw_sound T hmo hf ((D.res _ rts).draw hpw) (resA_len.trans hlen) (top:=b + ops.size) (Nat.le_add_right _ _) (fun p hp=>⟨by have:=(hall' p hp).1;omega,by have:=(hall' p hp);omega⟩) (M:=M) (E:=E) (fun k hk=>Nat.lt_of_lt_of_le (h1 k hk) hb) h6 hd' (M0:=M0) (E0:=E0) h2 h3 ?_
     intro σ' a' W' M' E' hk hg hM' hMM hAg hp0 hs'
     rw [hlen] at hk
     exact hq .norm _ σ' a' W' ds (fun _=>rfl) hk (Nat.le_trans hb (Nat.le_add_right _ _)) (Nat.le_refl _) (hg1.trans hg) (SatE.of hM' hMM hAg (hp0 ▸ h4) (h5.trans hg) hs' h0)
   ·obtain ⟨fr,H,G⟩:=σ
    simp only [vc] at hd
    cases hbb:Nat.ble bd b with
    | false=>rw [hbb] at hd;exact hd.elim
    | true =>
     rw [hbb] at hd
     obtain ⟨H1,G1,hd,hg1,hs2⟩:=hs.pub hd
     obtain ⟨r,G0,M,E,h0,h1,h2,h3,h4,h5,h6⟩:=hs2.ex
     have em:((headOf m all).map fun p=>strip p.2) = ((headOf m all).map (·.2)).map strip:=by rw [List.map_map];rfl
     rw [em] at hd
     have hd':=vcOps_strip hd
     have DT:=oneWay_spec D how
     have hAm:∀ p,p∈headOf m all↔p∈all∧p.1 < m:=fun p=>by simp [headOf]
     refine wpIn_region_any hf ?_
     have hs':Sat r G0 n M E ⟨fr,H1,G1⟩ a { W with drawn:=W.drawn + 1 }:=⟨h6.sim.keep ⟨rfl,rfl,rfl,Nat.le_refl _,fun _ _=>rfl⟩,h6.mfr,h6.mH,h6.fr,h6.size,h6.defers⟩
     have hbs:b + m≤b + ops.size:=Nat.add_le_add_left (Nat.le_of_lt DT.lt) _
     have hlt:=DT.lt
     obtain ⟨fl,hfl⟩:∃ fl,fl = (headOf m all).length:=⟨_,rfl⟩
     have hal:∀ p∈all,p.2.hid = b + p.1∧p.1 < ops.size:=hall
     have key:=anyT_sound T (rd:=rd) (nn:=nn) (Q:=Q) (ms:=[]) (fun _ _ h=>by cases h) DT (A:=headOf m all) List.filter_sublist (pairsOk_spec hpA) hAm (bd:=b) (B:=G1) (top:=b + m) (Nat.le_add_right _ _) (fun p hp=>by have h9:=(hAm p).1 hp;have:=(hal p h9.1).1;omega) (fun listed σ' a' W' M' E' hsz hls hk hg hM' hMM hAg hp0 hs9=>?_) fl (M:=M) (M0:=M0) (E0:=E0) (E:=E) hfl.symm (List.Sublist.refl _) (listed:=Array.replicate ops.size false) (fun i hi=>?_) (by simp) (fun p hp hpm hnot=>absurd ((hAm p).2 ⟨hp,hpm⟩) hnot) (fun p hp hm'=>?_) (fun k hk=>Nat.lt_of_lt_of_le (Nat.lt_of_lt_of_le (h1 k hk) hb) (Nat.le_add_right _ _)) h2 h3 (p0:=fr POS) rfl hs' (Grow.refl _) hd'
     ·have:fl + (ops.size - m) = ops.size:=by
       have:=DT.len
       omega
      rw [this] at key
      exact key
     ·refine tail_sound T he DT (ops.size - m) (i:=m) (by omega) (Nat.le_refl _) rfl hys hsz hls (SatE.of hM' hMM hAg (hp0 ▸ h4) (h5.trans hg) hs9 h0) hk (fun t C ht b' σ2 a2 W2 ch k0 k1 k2 k3 k4 k5=>hQ t C ht b' σ2 a2 W2 ds ch (fun _=>rfl) k0 k1 ((hg1.trans hg).trans k2) k3 (by omega) (by rw [List.length_drop,Array.length_toList] at k5;omega)) ?_
      intro σ2 a2 W2 k1 k2 k3
      have e9:b + m + (ops.toList.drop m).length = b + ops.size:=by simp;omega
      rw [e9] at k3
      exact hq .norm _ σ2 a2 W2 ds (fun _=>rfl) k1 (Nat.le_trans hb (Nat.le_add_right _ _)) (Nat.le_refl _) ((hg1.trans hg).trans k2) k3
     ·have:(Array.replicate ops.size false).getD i true = false:=by simp [hi]
      simp only [this,true_iff]
      obtain ⟨io,hio⟩:=D.full i hi
      by_cases hm9:i < m
      ·exact .inr ⟨io,(hAm _).2 ⟨hio,hm9⟩⟩
      ·exact .inl (by omega)
     ·have h9:=(hAm p).1 hp
      have:=(hal p h9.1).1
      have:=h1 _ hm'
      omega
   simp only [vc] at hd
   cases hbb:Nat.ble bd b with
   | false=>rw [hbb] at hd;exact hd.elim
   | true =>
    rw [hbb] at hd
    obtain ⟨H0,G1,hd,hg1,hs1⟩:=hs.pub hd
    obtain ⟨fr,H0',hd,hs1⟩:=hs1.absN hd
    obtain ⟨H1,hd,hs2⟩:=hs1.nam hd
    have hd:=tellX_iff hd
    have hs2:=hs2.res (l:=bslSlots ((all.map (·.2)).map strip))
    obtain ⟨r,G0,M,E,h0,h1,h2,h3,h4,h5,h6⟩:=hs2.ex
    have em:(all.map fun p=>strip p.2) = (all.map (·.2)).map strip:=by rw [List.map_map];rfl
    rw [em] at hd
    have hd':=vcOps_strip hd
    refine draw_sound T (ms:=[]) (fun _ _ h=>by cases h) hf (D.draw hpw) hlen (top:=b + ops.size) (Nat.le_add_right _ _) (fun p hp=>⟨by have:=(hall p hp).1;omega,by have:=(hall p hp);omega⟩) (M:=M) (E:=E) (fun k hk=>Nat.lt_of_lt_of_le (h1 k hk) hb) h6 hd' (M0:=M0) (E0:=E0) h2 h3 ?_
    intro σ' a' W' M' E' hk hg hM' hMM hAg hp0 hs'
    rw [hlen] at hk
    exact hq .norm _ σ' a' W' ds (fun _=>rfl) hk (Nat.le_trans hb (Nat.le_add_right _ _)) (Nat.le_refl _) (hg1.trans hg) (SatE.of hM' hMM hAg (hp0 ▸ h4) (h5.trans hg) hs' h0)
  | false =>
   simp only [compC] at hc
   split at hc
   case h_2=>cases hc
   rename_i l hl
   cases hc
   simp only [vc] at hd
   cases hbb:Nat.ble bd b with
   | false=>rw [hbb] at hd;exact hd.elim
   | true =>
    rw [hbb] at hd
    refine wpIn_region_list ?_
    refine ops_sound T he hl (hs.up hb) hd (fun t C ht b' σ' a' W' ch k0 k1 k2 k3 k4 k5=>hQ t C ht b' σ' a' W' ds ch (fun _=>rfl) k0 k1 k2 k3 (Nat.le_trans hb k4) (by rw [compList_len hl];exact k5)) ?_
    intro σ' a' W' hk hg hs'
    have hlen:=compList_len hl
    rw [← hlen] at hs'
    exact hq .norm _ σ' a' W' ds (fun _=>rfl) hk (Nat.le_trans hb (Nat.le_add_right _ _)) (Nat.le_refl _) hg hs'
 | seq x y ihx ihy =>
  intro e he rd nn M0 E0 ds ic b b2 bd σ a W K Q pb hc hb hpb hrd hs hd hQ hq
  simp only [compC] at hc
  split at hc
  case h_2=>cases hc
  rename_i x' b' hx
  split at hc
  case h_2=>cases hc
  rename_i y' b3 hy
  cases hc
  simp only [vc] at hd
  have hle:=compC_le y hy
  have hr1:=hrd
  have hr2:=hrd
  refine wpIn_seq (ihx he hx hb hpb hr1 hs hd (fun t C ht bd' σ' a' W' ds' ch k0 k9 k1 k2 k3 k4 k5=>hQ t C ht bd' σ' a' W' ds' ch (fun h=>k0 (h.imp_left fun h=>by simp only [noRange,Bool.and_eq_true] at h;exact h.1)) k9 k1 k2 k3 k4 (Nat.le_trans k5 hle)) ?_)
  intro o bd' σ' a' W' ds' hds hk hbl hbd hg hs'
  cases o with
  | norm=>exact ihy he hy hbd hpb hr2 hs' hk (fun t C ht bd2 σ2 a2 W2 ds2 ch k0 k9 k1 k2 k3 k4 k5=>hQ t C ht bd2 σ2 a2 W2 ds2 ch (fun h=>by rw [k0 (h.imp_left fun h=>by simp only [noRange,Bool.and_eq_true] at h;exact h.2),hds (h.imp_left fun h=>by simp only [noRange,Bool.and_eq_true] at h;exact h.1)]) k9 k1 (hg.trans k2) k3 (Nat.le_trans hbl k4) k5) (fun o2 bd2 σ2 a2 W2 ds2 k0 k1 kl k2 k3 k4=>hq o2 bd2 σ2 a2 W2 ds2 (fun h=>by rw [k0 (h.imp_left fun h=>by simp only [noRange,Bool.and_eq_true] at h;exact h.2),hds (h.imp_left fun h=>by simp only [noRange,Bool.and_eq_true] at h;exact h.1)]) k1 (Nat.le_trans hbl kl) k2 (hg.trans k3) k4)
  | exit id=>exact hq (.exit id) bd' σ' a' W' ds' (fun h=>hds (h.imp_left fun h=>by simp only [noRange,Bool.and_eq_true] at h;exact h.1)) hk hbl (Nat.le_trans hbd hle) hg hs'
  | ret=>exact hq .ret bd' σ' a' W' ds' (fun h=>hds (h.imp_left fun h=>by simp only [noRange,Bool.and_eq_true] at h;exact h.1)) hk hbl (Nat.le_trans hbd hle) hg hs'
 | cond q x y ihx ihy =>
  intro e he rd nn M0 E0 ds ic b b2 bd σ a W K Q pb hc hb hpb hrd hs hd hQ hq
  simp only [compC] at hc
  split at hc
  case h_2=>cases hc
  rename_i c' x' b' hcq hx
  split at hc
  case h_2=>cases hc
  rename_i y' b3 hy
  cases hc
  have hle:=compC_le y hy
  have hle':=compC_le x hx
  simp only [vc] at hd
  have hr1:=hrd
  have hr2:=hrd
  have go:∀ t:Bool,a.eval q = .bool t→(match t with | true=>vc P T.get ⟨e.l,e.Y,pb,e.pn⟩ x' bd σ K | false=>vc P T.get ⟨e.l,e.Y,pb,e.pn⟩ y' bd σ K)→(Code.cond q x y).wpIn (FW rd) nn P Q a W:=fun t ev h=>by
   refine wpIn_cond ev ?_
   cases t with
   | true=>exact ihx he hx hb hpb hr1 hs h (fun t C ht bd' σ' a' W' ds' ch k0 k9 k1 k2 k3 k4 k5=>hQ t C ht bd' σ' a' W' ds' ch (fun h=>k0 (h.imp_left fun h=>by simp only [noRange,Bool.and_eq_true] at h;exact h.1)) k9 k1 k2 k3 k4 (Nat.le_trans k5 hle)) (fun o bd' σ' a' W' ds' k0 k1 kl k2=>hq o bd' σ' a' W' ds' (fun h=>k0 (h.imp_left fun h=>by simp only [noRange,Bool.and_eq_true] at h;exact h.1)) k1 kl (Nat.le_trans k2 hle))
   | false=>exact ihy he hy (Nat.le_trans hb hle') hpb hr2 hs h (fun t C ht bd' σ' a' W' ds' ch k0 k9 k1 k2 k3 k4 k5=>hQ t C ht bd' σ' a' W' ds' ch (fun h=>k0 (h.imp_left fun h=>by simp only [noRange,Bool.and_eq_true] at h;exact h.2)) k9 k1 k2 k3 k4 k5) (fun o bd' σ' a' W' ds' k0 k1 kl k2=>hq o bd' σ' a' W' ds' (fun h=>k0 (h.imp_left fun h=>by simp only [noRange,Bool.and_eq_true] at h;exact h.2)) k1 kl k2)
  obtain ⟨r,G0,M,E,_,_,_,_,_,_,hs'⟩:=hs.ex
  have rc:=opd_rel hs'.fr hcq
  unfold condK at hd
  split at hd
  ·rename_i e';rw [e'] at rc;exact go true rc hd
  ·rename_i e';rw [e'] at rc;exact go false rc hd
  ·rename_i t e'
   rw [e'] at rc
   cases t
   ·exact go false rc (hd.f rfl).out
   ·exact go true rc (hd.t rfl).out
  ·exact hd.elim
 | block id x ih =>
  intro e he rd nn M0 E0 ds ic b b2 bd σ a W K Q pb hc hb hpb hrd hs hd hQ hq
  simp only [compC] at hc
  split at hc
  case h_2=>cases hc
  rename_i x' b' hx
  cases hc
  simp only [vc] at hd
  refine wpIn_block (ih he hx hb hpb hrd hs hd hQ ?_)
  intro o bd' σ' a' W' ds' hds hk hbl hbd hg hs'
  cases o with
  | norm=>exact hq .norm bd' σ' a' W' ds' hds hk hbl hbd hg hs'
  | ret=>exact hq .ret bd' σ' a' W' ds' hds hk hbl hbd hg hs'
  | exit i =>
   simp only [exitOf,Exit.inBlock]
   cases hi:Nat.beq i id with
   | true =>
    simp only [hi,cond_true] at hk
    rw [if_pos (Nat.eq_of_beq_eq_true hi)]
    exact hq .norm bd' σ' a' W' ds' hds hk hbl hbd hg hs'
   | false =>
    simp only [hi,cond_false] at hk
    rw [if_neg (fun e=>by subst e;rw [Nat.beq_refl] at hi;cases hi)]
    exact hq (.exit i) bd' σ' a' W' ds' hds hk hbl hbd hg hs'
 | loop x ih =>
  intro e he rd nn M0 E0 ds ic b b2 bd σ a W K Q pb hc hb hpb hrd hs hd hQ hq
  simp only [compC] at hc
  split at hc
  case h_2=>cases hc
  rename_i x' b' hx
  cases hc
  simp only [vc] at hd
  obtain ⟨I,⟨x0,f0,k0⟩,hbd,hround⟩:=hd
  have hM0:=hs.low
  have key:∀ m (g:I.α) (a':Act) (W':World) G ds',(noRange x' = true∨rd≠none→ds' = ds)→I.m g < m→Grow σ.G G→I.ok g G→SatE e ds' n bd M0 E0 ⟨frOf (I.fr g),HOf (I.H g),G⟩ a' W'→Code.roundsIn (FW rd) nn P x Q m a' W':=by
   intro m
   induction m with
   | zero=>intro g a' W' G ds' _ h;omega
   | succ m ihm =>
    intro g a' W' G ds' hds hm hG hok hsat
    have hr:=(hround g G hG hok).out
    refine ih he hx hb hpb hrd hsat hr (fun t C ht bd' σ2 a2 W2 ds2 ch k0 k9 k1 k2 k3 k4 k5=>hQ t C ht bd' σ2 a2 W2 ds2 ch (fun h=>(k0 h).trans (hds h)) k9 k1 (hG.trans k2) k3 k4 k5) ?_
    intro o bd' σ' a2 W2 ds2 hds2 hk hbl' hbd' hg' hs'
    have hds3:noRange x' = true∨rd≠none→ds2 = ds:=fun h=>(hds2 h).trans (hds h)
    cases o with
    | exit id=>exact hq (.exit id) bd' σ' a2 W2 ds2 hds3 hk hbl' hbd' (hG.trans hg') hs'
    | ret=>exact hq .ret bd' σ' a2 W2 ds2 hds3 hk hbl' hbd' (hG.trans hg') hs'
    | norm =>
     obtain ⟨g',f1,f3,f4⟩:=hk
     exact ihm g' a2 W2 σ'.G ds2 hds3 (by omega) (hG.trans hg') f3 (hs'.head hM0 hpb f1 (hbd g').1 (hbd g').2)
  exact wpIn_loop_rounds (I.m x0 + 1) (key _ x0 a W σ.G ds (fun _=>rfl) (Nat.lt_succ_self _) (Grow.refl _) k0 (hs.head hM0 hpb f0 (hbd x0).1 (hbd x0).2))
 | rangeFunc g ps x y ihx ihy =>
  intro e he rd nn M0 E0 ds ic b b2 bd σ a W K Q pb hc hb hpb hrd hs hd hQ hq
  simp only [compC] at hc
  split at hc
  case h_2=>cases hc
  rename_i g' ic1 b1 hg' hx
  split at hc
  case h_2=>cases hc
  rename_i jc1 b3 hy
  cases hcc:(noRange ic1 && ps.toList.all (fun p=>Nat.blt p n && Nat.blt p 1000000)) with
  | false=>rw [hcc] at hc;cases hc
  | true =>
   rw [hcc] at hc;cases hc
   simp only [Bool.and_eq_true,List.all_eq_true] at hcc
   obtain ⟨nr1,hps⟩:=hcc
   obtain ⟨fr,H,G⟩:=σ
   simp only [vc] at hd
   split at hd
   case h_2=>exact hd.elim
   rename_i v hv
   obtain ⟨pre,post,Ys,I,⟨gf,first,cap,rfl,hbody,hsound⟩,hpre,hlen,⟨x0,kx0,hH0,ok0,hp0,hpo⟩,⟨hfb,hbd⟩,hmono,hround,hdone⟩:=hd
   have hpos:fr POS = frOf I.fr POS:=hH0.pos
   have rg:a.eval g = .func (.func gf) first cap:=by
    obtain ⟨r,G0,M,E,_,_,_,_,_,_,h6⟩:=hs.ex
    have:=opd_rel h6.fr hg'
    rw [hv] at this;exact this
   have hs0:=hs.head hs.low hpb hH0 hfb (hbd x0)
   clear hs hv
   generalize hfrg:frOf I.fr = fr' at hs0
   generalize hHg:HOf (I.H x0) = H' at hs0
   obtain ⟨M,E,rfl,h1,h2,h3,h4,h5⟩:=hs0.now he
   subst hfrg
   subst hHg
   have hle1:=compC_le x hx
   have hle2:=compC_le y hy
   refine wpIn_rangeFunc ?_
   intro fn _
   -- the record and the block of deferred calls
   obtain ⟨l,D,mark,W1,henter,hll,hlow,hsz1,hL1,hos,hmk,hmn,hm0⟩:∃ (l D:Nat) (mark:List Deferred) (W1:World),(Instr.enterLoop fn a.tmps ps x y (FW rd).round).run P W = .ok (l,mark) W1∧W.heap.size≤l∧(∀ k,k < W.heap.size→W1.heap[k]? = W.heap[k]?)∧W.heap.size≤W1.heap.size ∧
     W1.heap[l]? = some (mkRec fn a.tmps ps x y D .ready none)∧(W1.os = W.os∧W1.tape = W.tape∧W1.output = W.output)∧(∀ d∈mark, ∃ m,d = ⟨.collected m, #[]⟩∧W.heap.size≤m∧m≠l∧W1.heap[m]? = some (.deferred (some [])))∧mark.Pairwise (·≠·)∧(rd≠none→mark = []):=by
    cases rd with
    | none =>
     refine ⟨W.heap.size.succ,(W.heap.size),[⟨.collected (W.heap.size), #[]⟩],(W.alloc (.deferred (some []))).alloc (mkRec fn a.tmps ps x y (W.heap.size) .ready none),run_enterLoop_outer _ _ _ _ _,Nat.le_succ _,fun k hk=>(Below.heap_alloc _ _ _ (by simp;omega)).trans (Below.heap_alloc _ _ _ hk),by simp;omega, ?_,⟨rfl,rfl,rfl⟩,fun d hd=>⟨W.heap.size,List.mem_singleton.1 hd,Nat.le_refl _,Nat.ne_of_lt (Nat.lt_succ_self _),(Below.heap_alloc _ _ _ (by simp)).trans (World.alloc_heap_new W _)⟩,List.pairwise_singleton _ _,fun h=>absurd rfl h⟩
     have:=World.alloc_heap_new (W.alloc (.deferred (some []))) (mkRec fn a.tmps ps x y (W.heap.size) .ready none);rwa [World.size_alloc] at this
    | some l0 =>
     obtain ⟨r0,hr0⟩:=hrd l0 rfl _ _ _ _ h4.at_
     exact ⟨W.heap.size,r0.defers,[],W.alloc (mkRec fn a.tmps ps x y r0.defers .ready none),run_enterLoop_inner hr0 _ _ _ _ _,Nat.le_refl _,fun k hk=>Below.heap_alloc _ _ _ hk,by simp,World.alloc_heap_new W _,⟨rfl,rfl,rfl⟩,(fun d hd=>by cases hd),List.Pairwise.nil,fun _=>rfl⟩
   have hG:∀ k,W.heap.size≤k→G k = none:=fun k hk=>by
    cases h:G k with
    | none=>rfl
    | some o=>have:=(Array.getElem?_eq_some_iff.1 (h5.sim.sub k o h)).1;omega
   have hhand:∀ k,Hand E (HOf (I.H x0)) k→k < W.heap.size:=fun k hk=>h4.ln k hk
   have hsub1:Sub G W1:=fun k o h=>by
    have h0:=h5.sim.sub k o h
    rw [hlow k (Array.getElem?_eq_some_iff.1 h0).1];exact h0
   have hmark:∀ D,MarkB a.defers D→D < W.heap.size:=fun D hD=>(Array.getElem?_eq_some_iff.1 (h4.marks.at_ D hD).2.2).1
   -- what the machinery holds
   have core0:Core e (I.pos x0) (mark++a.defers) l (mkRec fn a.tmps ps x y D .ready none) E (HOf (I.H x0)) (fun _=>False) G W1:=by
    have hk:∀ k,HdOf ⟨W,Hand E (HOf (I.H x0)),a.defers⟩ G k→W1.heap[k]? = W.heap[k]?∧G k = none:=fun k hk=>by
     rcases hk with ⟨q1,q2⟩ | q
     ·exact ⟨hlow k (hhand k q1),q2⟩
     ·exact ⟨hlow k (hmark k q),(h4.marks.at_ k q).2.1⟩
    obtain ⟨a1,a2,a3⟩:=Rooted.after h5.sim h4.marks (Grow.refl G) hsub1 hk
    rw [hp0]
    have full:Core e (frOf I.fr POS) (mark++a.defers) l (mkRec fn a.tmps ps x y D .ready none) E (HOf (I.H x0)) (fun _=>False) G W1:=by
     have hlt:l < W1.heap.size:=(Array.getElem?_eq_some_iff.1 hL1).1
     have mk:∀ m,MarkB (mark++a.defers) m→(W.heap.size≤m∧m≠l∧W1.heap[m]? = some (.deferred (some [])))∨MarkB a.defers m:=fun m ⟨d,hd,e⟩=>by
      rcases List.mem_append.1 hd with hd | hd
      ·obtain ⟨m',e',q1,q2,q3⟩:=hmk d hd
       rw [e'] at e
       injection e with e1 _;injection e1 with e1
       subst e1
       exact .inl ⟨q1,q2,q3⟩
      ·exact .inr ⟨d,hd,e⟩
     refine ⟨a1.self _,he.step h4.at_ ⟨⟨hos.1,hos.2.1,hos.2.2,by show W.heap.size≤_;omega,fun k hk _=>hlow k hk⟩,Grow.refl _,hsub1,fun b o h=>.inl h, ?_⟩,⟨?_, ?_, ?_⟩,⟨hL1,hG _ hll,fun h=>by have:=hhand _ h;omega,fun h=>?_⟩,fun b hb=>hb.elim⟩
     ·rintro k ((⟨q1,q2⟩ | q) | q | q)
      ·exact ⟨.inl (.inl ⟨q1,q2⟩),q2,(a3 k q1).1⟩
      ·rcases mk k q with ⟨q1,_,q3⟩ | q
       ·exact ⟨.inr q1,hG _ q1,(Array.getElem?_eq_some_iff.1 q3).1⟩
       ·exact ⟨.inl (.inr q),(h4.marks.at_ k q).2.1,by have:=hmark k q;omega⟩
      ·exact q.elim
      ·subst q;exact ⟨.inr hll,hG _ hll,hlt⟩
     ·intro d hd
      rcases List.mem_append.1 hd with hd | hd
      ·obtain ⟨m,e,_⟩:=hmk d hd
       exact .inl ⟨m,e⟩
      ·exact h4.marks.each d hd
     ·intro m hm
      rcases mk m hm with ⟨q1,_,q3⟩ | q
      ·exact ⟨fun h=>by have:=hhand _ h;omega,hG _ q1,q3⟩
      ·exact a2.at_ m q
     ·refine List.pairwise_append.2 ⟨hmn,h4.marks.nodup,fun d hd d' hd' e=>?_⟩
      obtain ⟨m,e1,q1,_⟩:=hmk d hd
      have:=hmark m ⟨d',hd',e ▸ e1⟩
      omega
     ·rcases mk _ h with ⟨_,h,_⟩ | h
      ·exact h rfl
      ·have:=hmark _ h;omega
    exact full
   have hrounds:=range_rounds (A:=fun k=>k∈mentFr I.fr∨M0 k) (pb:=pb) (n:=n) (tab:=T.get) (K:=K) (I:=I) (ps:=ps) (x:=x) (y:=y) (fn:=fn) (a:=a) (D:=D) (ic:=ic1) (jc:=jc1) (l:=l) (ds:=mark++a.defers) he (b:=b) (b1:=b1) (b2:=b2) (bd:=bd) (Ys:=Ys)
    (fun {W1 Hd E1 σ a1 K Q} hr hs hv hq=>ihx (bodyEnv_ok he) hx hb (fun _ h=>h.elim (fun h=>by simp [h]) (fun h=>by simp [hpb _ h])) (recOk_body hr) hs hv (fun t C ht=>by cases ht) (fun o bd' σ' a' W' ds' k0=>by rw [k0 (.inl nr1)];exact hq o bd' σ' a' W'))
    (fun {W1 Hd E1 bd1 σ a1 K Q} hr hb1 hs hv hq=>ihy (bodyEnv_ok he) hy hb1 (fun _ h=>h.elim (fun h=>by simp [h]) (fun h=>by simp [hpb _ h])) (recOk_body hr) hs hv (fun t C ht=>by cases ht) (fun o bd' σ' a' W' ds' k0=>by rw [k0 (.inr (by simp))];exact hq o bd' σ' a' W'))
    hfb (fun k hk=>hk.elim (fun h=>bd_mentFr hfb k h) (fun h=>h1 k (h2 k h))) (fun k hk=>.inl hk) (fun k hk=>hk.elim (fun h=>by simp [h]) (fun h=>by simp [hpb _ h])) h5.fr h5.size (fun p hp=>by have:=(hps p hp).1;simpa using this) hlen hbd hpo (fun hm=>by have:=(hps _ hm).2;simp at this) hround
   have he2:Env.Ok P ⟨l,Ys,_,_,none⟩:=⟨J2_stable he hmono,J2x_stable he,hrounds⟩
   have hcall:=hsound _ he2 [.func (.yield l) #[] #[]] G W1 Ys 0 hsub1 (hpre _) (by simp) ⟨x0,E,kx0,ok0,Grow.refl _,Agree.refl _ _,core0⟩
   refine ⟨l,mark,W1, { target:=.fn (.func gf) cap,args:=first++#[Value.func (.yield l) #[] #[]] },W1,gf,(first.toList++[Value.func (.yield l) #[] #[]]++cap.toList).toArray,W1, ?_, ?_, ?_, ?_, ?_, ?_⟩
   ·exact henter
   ·simp only [resolve,rg]
    simp [go_sem]
   ·intro f' hf';trivial
   ·have:(first++#[Value.func (.yield l) #[] #[]]++cap:Array Value) = (first.toList++[Value.func (.yield l) #[] #[]]++cap.toList).toArray:=by apply Array.ext';simp
    rw [← this]
    simp only [invoke]
    exact run_callFunc hbody _ _
   ·intro h;simp [FW,Fence.wide] at h
   ·refine (callsIn_FW hcall).mono ?_
    rintro en W2 ⟨v,st,j,G2,rfl,r1,r2,r3,r4,r5⟩
    -- behind the loop
    have fin:∀ {o:Obj} {r:Loop} {E2:Nat→Value} {H2:Nat→Option OB} {bd2:Nat} {p:SV},posOk p = true→o = .loop r→r.state≠.busy→Agree (fun k=>k∈mentFr I.fr∨M0 k) E E2→bd≤bd2→(∀ h ob,H2 h = some ob→h < bd2∧ob.ment (· < bd2))→Core e p (mark++a.defers) l o E2 H2 (fun _=>False) G2 W2 →
      ∃ W3,(Instr.endLoop l).run P W2 = .ok r.pending W3∧SatE e (mark++a.defers) n bd2 M0 E0 ⟨upd (frOf I.fr) POS p,H2,G2⟩ { a with defers:=mark++a.defers } W3:=by
     rintro o r E2 H2 bd2 p hpk rfl hbusy hag hbd2 hm2 core
     have hrun:=run_endLoop (P:=P) core.rec_.1 hbusy
     refine ⟨_,hrun, ?_⟩
     have c3:=core.setRec he (.loop { r with state:=.exhausted })
     refine SatE.of (M:=(· < bd2)) (E:=E2) (r:=⟨_,Hand E2 H2,mark++a.defers⟩) (G0:=G2) (fun _ h=>h) (fun k hk=>Nat.lt_of_lt_of_le (h1 k (h2 k hk)) hbd2) (fun k hk=>(hag k (.inr hk)).trans (h3 k hk)) ⟨by show e.at_ (upd (frOf I.fr) POS p POS) _ _ _;rw [upd_same];exact he.step c3.at_ (EnvStep.shrink c3.sim.sub fun b hb=>⟨.inl hb,c3.priv b (.inl hb)⟩),fun b hb=>c3.hand hb,c3.sim.sub,c3.marks⟩ (Grow.refl _)
      ⟨c3.sim,fun i=>?_,hm2,fun i=>?_,h5.size,rfl⟩
     ·show (upd (frOf I.fr) POS p i).ment _
      by_cases hi:i = POS
      ·subst hi;rw [upd_same];exact posOk_ment hpk _
      ·rw [upd_other _ _ hi];exact SV.ment_mono (fun k hk=>Nat.lt_of_lt_of_le (h1 k hk) hbd2) (h5.mfr i)
     ·show (upd (frOf I.fr) POS p i).rel _ _
      by_cases hi:i = POS
      ·subst hi;rw [upd_same];exact posOk_rel hpk _ _
      ·rw [upd_other _ _ hi];exact SV.rel_agree (h5.fr i) (SV.ment_mono (fun k hk=>.inl hk) (mentFr_ment (fun k hk=>hk) i)) hag
    cases st with
    | false =>
     obtain ⟨x',E2,q1,q2,q3,q4,q5⟩:=r5
     obtain ⟨W3,w1,w2⟩:=fin (hpo x') rfl (by simp) q4 (Nat.le_refl _) (HBd_all (hbd x')) q5
     refine ⟨none,W3,w1, ?_⟩
     have hk:=(hdone x' G2 q3 q2 (by rw [q1,r4 rfl];simp)).out
     exact hq .norm bd _ _ W3 _ (fun h=>by rw [hm0 (h.resolve_left (by simp [noRange])),List.nil_append]) hk (Nat.le_refl _) (Nat.le_trans hb (Nat.le_trans hle1 hle2)) q3 w2
    | true =>
     obtain ⟨ou,c,bd2,H2,E2,p,q0,q1,q2,q3,q4,q5,q6,q7,q8⟩:=r5
     obtain ⟨W3,w1,w2⟩:=fin q0 rfl (by simp) q7 q3 q5 q8
     refine ⟨some c,W3,w1, ?_⟩
     have hk:=q2 G2 (Grow.refl _)
     have hgo:=hq ou bd2 _ _ W3 _ (fun h=>by rw [hm0 (h.resolve_left (by simp [noRange])),List.nil_append]) hk q3 q4 q6 w2
     rcases q1 with ⟨rfl,rfl⟩ | ⟨id,rfl,rfl⟩
     ·exact wpIn_ret hgo
     ·exact wpIn_exit hgo
 | _=>intros;simp [compC] at *
end
end Go.Pal

namespace Go.Pal
open Go.RowKit

/-! ### Functions -/

inductive IRes where
 | tmp (t:Nat)
 | cell (t n:Nat) (agg:Bool)

def resSV (σ:St):IRes→Option SV
 | .tmp t=>some (σ.fr t)
 | .cell t n agg=>match σ.fr t with
  | .c (.ptr h off)=>match σ.H h with
   | some (.cells _ cs _)=>let l:=(cs.drop off).take n;cond (Nat.beq l.length n) (some (SV.mk agg l)) none
   | _=>none
  | _=>none

def resK (σ:St):List IRes→(Nat→Option OB)→Hp→(List Value→HK)→Prop
 | [],H,G,K=>K [] H G
 | r :: rs,H,G,K=>match resSV σ r with
  | some sv=>closeK H G sv fun v H1 G1=>resK σ rs H1 G1 fun vs H2 G2=>K (v :: vs) H2 G2
  | none=>False

def wrapV:List Value→Value
 | [v]=>v
 | vs=>.tuple vs.toArray

def isFn:SV→Bool
 | .c (.val (.func ..))=>true
 | _=>false
def anyFn (σ:St):List IRes→Bool
 | []=>false
 | .tmp t :: r=>isFn (σ.fr t) || anyFn σ r
 | .cell .. :: r=>anyFn σ r
def resF (rs:List IRes) (σ:St) (K:List Value→HK):Prop:=cond (anyFn σ rs) (PubAnyP σ.H σ.G fun H G=>resK σ rs H G K) (resK σ rs σ.H σ.G K)
def finK (rs:List IRes) (σ:St) (K:Value→Hp→Prop):Prop:=resF rs σ fun vs _ G=>FinP (K (wrapV vs) G)

def compRes (P:Program):List ResultVar→Option (List IRes)
 | []=>some []
 | .tmp t :: r=>(compRes P r).map (.tmp t :: ·)
 | .cell t ty :: r=>match szT P ty,aggT P ty,compRes P r with
  | some n,some g,some rs=>cond (g || Nat.beq n 1) (some (.cell t n g :: rs)) none
  | _,_,_=>none

def argFr:List Value→Nat→SV
 | [],_=>.c .any
 | v :: vs,i=>match i with
  | 0=>SV.of v
  | i + 1=>argFr vs i

section
variable {P:Program}

theorem argFr_rel (E:Nat→Value):∀ (vs:List Value) (i:Nat),(argFr vs i).rel E (vs[i]?.getD undef)
 | [],_=>trivial
 | v :: vs,0=>SV.of_rel E v
 | v :: vs,i + 1=>by simpa [argFr] using argFr_rel E vs i
theorem argFr_ment (M:Nat→Prop):∀ (vs:List Value) (i:Nat),(argFr vs i).ment M
 | [],_=>trivial
 | v :: vs,0=>SV.of_ment M v
 | v :: vs,i + 1=>argFr_ment M vs i

theorem resSV_run {w0:Root} {W:World} {G0:Hp} {n:Nat} {M:Nat→Prop} {E:Nat→Value} {σ:St} {a:Act} (hs:Sat w0 G0 n M E σ a W) {t:Nat} {sv:SV} (h:resSV σ (.tmp t) = some sv):sv.rel E (a.tmps.getD t undef):=by
 simp only [resSV,Option.some.injEq] at h
 rw [← h];exact hs.fr t

theorem resSV_cell {w0:Root} {W:World} {G0:Hp} {n:Nat} {M:Nat→Prop} {E:Nat→Value} {σ:St} {a:Act} (hs:Sat w0 G0 n M E σ a W) {t ty m:Nat} {g:Bool} {sv:SV} (hn:szT P ty = some m) (hg:aggT P ty = some g) (hgn:g = true∨m = 1)
  (h:resSV σ (.cell t m g) = some sv):∃ ad v,a.tmps.getD t undef = .pointer (some ad)∧(loadVar ty ad).run P W = .ok v W∧sv.rel E v:=by
 simp only [resSV] at h
 have hf:=hs.fr t
 split at h
 ·rename_i h' off e
  rw [e] at hf
  obtain ⟨b,e1,e2⟩:=hf
  split at h
  ·rename_i p cs t' eH
   obtain ⟨b',vs,e3,hb',hw,hr,h1⟩:=hs.sim.own h' _ eH
   rw [e1] at e3;cases e3
   cases hl:Nat.beq ((cs.drop off).take m).length m with
   | false=>simp only [hl] at h;cases h
   | true =>
    simp only [hl,cond_true,Option.some.injEq] at h
    have hl:=Nat.eq_of_beq_eq_true hl
    have hr2:=relL_take m (relL_drop off hr)
    have hlen:=relL_len hr2
    have hrun:=run_loadAt' (P:=P) (W:=W) hn hg hgn (b:=b) (off:=off) (cs:=(vs.drop off).take m) (by omega) (fun j v hj=>by
     have:vs[off + j]? = some v:=by
      rw [List.getElem?_take] at hj
      split at hj
      ·rwa [List.getElem?_drop] at hj
      ·cases hj
     simp [World.cell?,hw,this])
    refine ⟨⟨b,off,none⟩,mkV g ((vs.drop off).take m),e2, ?_,h ▸ mkV_rel hgn (by omega) hr2⟩
    simpa [Instr.loadAt,Instr.sureAddr] using hrun
  ·cases h
 ·cases h

def resSem (tmps:Array Value):ResultVar→Sem Value
 | .tmp t=>pure (tmps.getD t undef)
 | .cell a t=>do loadVar t (← asAddr (tmps.getD a undef))

theorem resK_sound {w0:Root} {W:World} {G0:Hp} {n:Nat} {M:Nat→Prop} {E:Nat→Value} {σ:St} {a:Act} (hs:Sat w0 G0 n M E σ a W):∀ {rvs:List ResultVar} {rs:List IRes} {H:Nat→Option OB} {G:Hp} {K:List Value→HK},compRes P rvs = some rs→Good w0 G0 M E W H G →
  resK σ rs H G K→∃ vs H' G',(rvs.mapM (resSem a.tmps)).run P W = .ok vs W∧K vs H' G'∧Grow G G'∧Good w0 G0 M E W H' G'
 | [],rs,H,G,K,hc,hg,hk=>by
  cases hc
  exact ⟨[],H,G,by simp,hk,Grow.refl _,hg⟩
 | .tmp t :: r,rs,H,G,K,hc,hg,hk=>by
  simp only [compRes,Option.map_eq_some_iff] at hc
  obtain ⟨rs',hrs,rfl⟩:=hc
  simp only [resK] at hk
  split at hk
  ·rename_i sv hsv
   obtain ⟨H1,G1,k1,g1,hg1⟩:=closeK_sound hg (resSV_run hs hsv) hk
   obtain ⟨vs,H2,G2,r2,k2,g2,hg2⟩:=resK_sound hs hrs hg1 k1
   exact ⟨_ :: vs,H2,G2,by simp [List.mapM_cons,resSem,r2],k2,g1.trans g2,hg2⟩
  ·exact hk.elim
 | .cell t ty :: r,rs,H,G,K,hc,hg,hk=>by
  simp only [compRes] at hc
  split at hc
  ·rename_i m g rs' hn hag hrs
   cases hb:(g || Nat.beq m 1) with
   | false=>rw [hb] at hc;cases hc
   | true =>
    rw [hb] at hc;cases hc
    simp only [resK] at hk
    split at hk
    ·rename_i sv hsv
     obtain ⟨ad,v,e1,hrun,hrel⟩:=resSV_cell hs hn hag ((bool_or hb).imp id Nat.eq_of_beq_eq_true) hsv
     obtain ⟨H1,G1,k1,g1,hg1⟩:=closeK_sound hg hrel hk
     obtain ⟨vs,H2,G2,r2,k2,g2,hg2⟩:=resK_sound hs hrs hg1 k1
     exact ⟨v :: vs,H2,G2,by simp [List.mapM_cons,resSem,e1,asAddr,hrun,r2],k2,g1.trans g2,hg2⟩
    ·exact hk.elim
  ·cases hc

theorem wrapV_eq (vs:List Value):wrapV vs = (if h:vs.toArray.size = 1 then vs.toArray[0] else .tuple vs.toArray):=by
 match vs with
 | []=>rfl
 | [v]=>rfl
 | _ :: _ :: _=>simp [wrapV]

theorem results_run {fn:Func} {tmps:Array Value} {W:World} {vs:List Value} (h:(fn.results.toList.mapM (resSem tmps)).run P W = .ok vs W):(results fn tmps).run P W = .ok (wrapV vs) W:=by
 have e:results fn tmps = (fn.results.mapM (resSem tmps) >>= fun vs=>pure (if h:vs.size = 1 then vs[0] else .tuple vs)):=by
  unfold results
  congr 1
 rw [e,Array.mapM_eq_mapM_toList]
 simp [Functor.map,Sem.run_bind',h,wrapV_eq]

theorem resF_sound {w0:Root} {W:World} {G0:Hp} {n:Nat} {M:Nat→Prop} {E:Nat→Value} {σ:St} {a:Act} (hs:Sat w0 G0 n M E σ a W) {rvs:List ResultVar} {rs:List IRes} {K:List Value→HK} (hc:compRes P rvs = some rs)
  (hk:resF rs σ K):∃ vs H' G',(rvs.mapM (resSem a.tmps)).run P W = .ok vs W∧K vs H' G'∧Grow σ.G G'∧Good w0 G0 M E W H' G':=by
 unfold resF at hk
 cases hf:anyFn σ rs with
 | false=>rw [hf] at hk;exact resK_sound hs hc ⟨hs.sim,hs.mH⟩ hk
 | true =>
  rw [hf] at hk
  obtain ⟨hs',hk⟩:=hk
  obtain ⟨H1,G1,k1,g1,hg1⟩:=pubN_sound ⟨hs.sim,hs.mH⟩ hk
  obtain ⟨vs,H2,G2,r1,k2,g2,hg2⟩:=resK_sound hs hc hg1 k1
  exact ⟨vs,H2,G2,r1,k2,g1.trans g2,hg2⟩
theorem SatE.leave {e:Env} (he:e.Ok P) (hpn:e.pn = none) {fn:Func} {n bd nn:Nat} {M0:Nat→Prop} {E0:Nat→Value} {R:Ending→World→Prop} {tmps:Array Value} {σ:St}:∀ {ds:List Deferred} {a:Act} {W:World},a.tmps = tmps→SatE e ds n bd M0 E0 σ a W →
  (∀ a' W',a'.tmps = tmps→SatE e [] n bd M0 E0 σ a' W'→∃ v,(results fn tmps).run P W' = .ok v W'∧R (.returned v) W')→LeavesInM (FW none) nn P fn tmps R ds .returning W
 | [],a,W,ha,hs,h=>h a W ha hs
 | d :: ds,a,W,ha,hs,h=>by
  obtain ⟨M,E,e0,h1,h2,h3,h4,h5⟩:=hs.now he
  rw [e0] at h4 h5
  obtain ⟨D,rfl⟩:=(h4.marks.each d (by simp)).resolve_right fun h=>h.1 hpn
  obtain ⟨d1,d2,d3⟩:=h4.marks.at_ D ⟨_,by simp,rfl⟩
  have hnd:=List.pairwise_cons.1 h4.marks.nodup
  have other:∀ b,b≠D→(W.putObj D (.deferred none)).heap[b]? = W.heap[b]?:=fun b hb=>World.putObj_heap_other hb
  have hsub:Sub σ.G (W.putObj D (.deferred none)):=fun b o hb=>by
   rw [other b (fun e=>by subst e;rw [d2] at hb;cases hb)];exact h5.sim.sub b o hb
  have hnm:¬ MarkB ds D:=fun ⟨d,hd,e⟩=>hnd.1 d hd e.symm
  have hm:MarksAt (e.pn≠none) ds (Hand E σ.H) σ.G W:=⟨fun d hd=>h4.marks.each d (by simp [hd]),fun D' ⟨d,hd,e⟩=>h4.marks.at_ D' ⟨d,by simp [hd],e⟩,hnd.2⟩
  have hk:∀ b,HdOf ⟨W,Hand E σ.H,ds⟩ σ.G b→(W.putObj D (.deferred none)).heap[b]? = W.heap[b]?∧σ.G b = none:=fun b hb=>by
   rcases hb with ⟨q1,q2⟩ | q
   ·exact ⟨other b (fun e=>d1 (e ▸ q1)),q2⟩
   ·exact ⟨other b (fun e=>hnm (e ▸ q)),(hm.at_ b q).2.1⟩
  obtain ⟨a1,a2,a3⟩:=Rooted.after (h5.sim.self ds) hm (Grow.refl _) hsub hk
  have hD:MarkB (⟨.collected D, #[]⟩ :: ds) D:=⟨_,by simp,rfl⟩
  have st:EnvStep (HdOf ⟨W,Hand E σ.H,⟨.collected D, #[]⟩ :: ds⟩ σ.G) σ.G W (HdOf ⟨W.putObj D (.deferred none),Hand E σ.H,ds⟩ σ.G) σ.G (W.putObj D (.deferred none)):=by
   refine ⟨⟨rfl,rfl,rfl,by simp,fun k hk hn=>other k (fun e=>hn (.inr (e ▸ hD)))⟩,Grow.refl _,hsub,fun b o h=>.inl h, ?_⟩
   rintro b (⟨q1,q2⟩ | ⟨d,hd,e⟩)
   ·exact ⟨.inl (.inl ⟨q1,q2⟩),q2,(a3 b q1).1⟩
   ·have:=a2.at_ b ⟨d,hd,e⟩
    exact ⟨.inl (.inr ⟨d,by simp [hd],e⟩),this.2.1,(Array.getElem?_eq_some_iff.1 this.2.2).1⟩
  refine ⟨by simp, .inl ⟨D,_,rfl,run_takeDeferred d3, ?_⟩⟩
  refine SatE.leave he hpn (a:={ a with defers:=ds }) ha ?_ h
  exact SatE.of (r:=⟨_,Hand E σ.H,ds⟩) (G0:=σ.G) h1 h2 h3 ⟨he.step h4.at_ st,fun b hb=>(a3 b hb).1,hsub,a2⟩ (Grow.refl _) ⟨a1,h5.mfr,h5.mH,h5.fr,h5.size,rfl⟩
structure Done (e:Env) (p:SV) (M:Nat→Prop) (E:Nat→Value) (W:World) (H:Nat→Option OB) (G:Hp):Prop where
 sim:Sim ⟨W,Hand E H,[]⟩ G E H G W
 at_:e.at_ p (HdOf ⟨W,Hand E H,[]⟩ G) G W
theorem body_end (T:Tab P) {e:Env} (he:e.Ok P) {f:FuncId} {fn:Func} {c:Code} {ic:IC} {b2 bd:Nat} (hf:P.funcs[f]? = some fn) (hb:fn.body = some c) (hc:compC P fn.ntmps c bd = some (ic,b2))
  {args:Array Value} {σ:St} {W:World} {E0:Nat→Value} {End:St→Prop} {R:Ending→World→Prop}
  (hs:SatE e [] fn.ntmps bd (fun _=>False) E0 σ { tmps:=args++Array.replicate (fn.ntmps - args.size) undef,defers:=[] } W)
  (h:vc P T.get ⟨e.l,e.Y,[],e.pn⟩ ic bd σ fun o _ σ=>match o with
   | .norm=>End σ
   | .ret=>End σ
   | .exit _=>False)
  (hq:∀ σ' a' W' M E,End σ'→Grow σ.G σ'.G→Rooted e (σ'.fr POS) ⟨W',Hand E σ'.H,[]⟩ σ'.G→Sat ⟨W',Hand E σ'.H,[]⟩ σ'.G fn.ntmps M E σ' a' W'→∃ v,(results fn a'.tmps).run P W' = .ok v W'∧R (.returned v) W')
  (hQ:∀ t C,e.pn = some (t,C)→∀ bd' σ' a' W' ds' ch,(noRange ic = true→ds' = [])→C σ'→PanV t ch→Grow σ.G σ'.G→SatE e ds' fn.ntmps bd' (fun _=>False) E0 σ' a' W'→LeavesInM (FW none) 0 P fn a'.tmps R a'.defers (.panicking ch) W') (hE:e.pn = none∨∀ σ, ¬ End σ):Calls P f args W R:=by
 refine (callsIn_wide (n:=0)).1 (callsIn_of_wp_marks hf hb trivial ?_)
 have fin:∀ {ds:List Deferred} {bd':Nat} {σ':St} {a':Act} {W':World},End σ'→Grow σ.G σ'.G→SatE e ds fn.ntmps bd' (fun _=>False) E0 σ' a' W'→LeavesInM (FW none) 0 P fn a'.tmps R a'.defers .returning W':=fun {ds bd' σ' a' W'} hk hg hs'=>by
  have hds:a'.defers = ds:=by obtain ⟨M,E,e0,_⟩:=hs'.now he;exact e0
  rw [hds]
  have hpn:=hE.resolve_right fun h=>h _ hk
  refine hs'.leave he hpn rfl ?_
  intro a2 W2 ha2 hs2
  obtain ⟨M,E,e0,h1,h2,h3,h4,h5⟩:=hs2.now he
  rw [e0] at h4 h5
  rw [← ha2]
  exact hq σ' a2 W2 M E hk hg h4 h5
 refine vc_sound T c he (rd:=none) hc (Nat.le_refl _) (fun _ h=>h.elim) (fun _ h=>by cases h) hs h (fun t C ht bd' σ' a' W' ds' ch k0 k9 k1 k2 k3 _ _=>hQ t C ht bd' σ' a' W' ds' ch (fun h=>k0 (.inl h)) k9 k1 k2 k3) ?_
 intro o bd' σ' a' W' ds' _ hk _ _ hg hs'
 cases o with
 | norm=>exact fin hk hg hs'
 | ret=>exact fin hk hg hs'
 | exit id=>exact hk.elim
theorem body_sound (T:Tab P) {e:Env} (he:e.Ok P) {f:FuncId} {fn:Func} {c:Code} {ic:IC} {b2 bd:Nat} {rs:List IRes} (hf:P.funcs[f]? = some fn) (hb:fn.body = some c) (hc:compC P fn.ntmps c bd = some (ic,b2)) (hr:compRes P fn.results.toList = some rs)
  {args:Array Value} {σ:St} {W:World} {E0:Nat→Value} {K:St→List Value→HK} {R:Ending→World→Prop}
  (hs:SatE e [] fn.ntmps bd (fun _=>False) E0 σ { tmps:=args++Array.replicate (fn.ntmps - args.size) undef,defers:=[] } W)
  (h:vc P T.get ⟨e.l,e.Y,[],e.pn⟩ ic bd σ fun o _ σ=>match o with
   | .norm=>resF rs σ (K σ)
   | .ret=>resF rs σ (K σ)
   | .exit _=>False)
  (hq:∀ σ' W' M E vs H' G',K σ' vs H' G'→Grow σ.G G'→Done e (σ'.fr POS) M E W' H' G'→R (.returned (wrapV vs)) W') (hpn:e.pn = none:=by rfl):Calls P f args W R:=by
 refine body_end T he hf hb hc hs h ?_ (fun t C ht=>by rw [hpn] at ht;cases ht) (.inl hpn)
 intro σ' a' W' M E hk hg h4 h5
 obtain ⟨vs,H',G',r1,k1,g1,hg1⟩:=resF_sound h5 hr hk
 obtain ⟨q1,q2⟩:=h4.now he g1 hg1.sim
 exact ⟨_,results_run r1,hq σ' W' M E vs H' G' k1 (hg.trans g1) ⟨q2,q1.at_⟩⟩
def baseEnv (ln:Nat→Prop) (G:Hp) (W:World):Env :=
 ⟨0,[],fun _ Hd G' W'=>Beneath ⟨W,ln,[]⟩ W'∧(∀ b o,G' b = some o→G b = some o∨W.heap.size≤b∨ln b)∧∀ b,Hd b→W.heap.size≤b∨ln b,fun _ Hd G' W'=>Beneath ⟨W,ln,[]⟩ W'∧(∀ b o,G' b = some o→G b = some o∨W.heap.size≤b∨ln b)∧∀ b,Hd b→W.heap.size≤b∨ln b,none⟩
theorem baseEnv_ok {ln:Nat→Prop} {G:Hp} {W:World}:(baseEnv ln G W).Ok P:=by
 have st:Stable (baseEnv ln G W).J:=by
  rintro k Hd G1 W1 Hd' G2 W2 ⟨h1,h2,h3⟩ s
  refine ⟨⟨s.beneath.os.trans h1.os,s.beneath.tape.trans h1.tape,s.beneath.output.trans h1.output,Nat.le_trans h1.size s.beneath.size,fun k hk hn=>?_⟩, ?_, ?_⟩
  ·exact (s.beneath.block k (Nat.lt_of_lt_of_le hk h1.size) (fun h=>(h3 k h).elim (fun h=>by have:k < W.heap.size:=hk;omega) hn)).trans (h1.block k hk hn)
  ·intro b o h
   rcases s.newG b o h with h | h | h
   ·exact h2 b o h
   ·exact .inr (h3 b h)
   ·exact .inr (.inl (Nat.le_trans h1.size h))
  ·intro b h
   rcases (s.hd b h).1 with h | h
   ·exact h3 b h
   ·exact .inl (Nat.le_trans h1.size h)
 exact ⟨st,st,fun k args _ _ _ h=>by simp [baseEnv] at h⟩
theorem baseEnv_at {ln:Nat→Prop} {G:Hp} {W:World} {sv:SV} {Hd:Nat→Prop} {G':Hp} {W':World}:(baseEnv ln G W).at_ sv Hd G' W'↔Beneath ⟨W,ln,[]⟩ W'∧(∀ b o,G' b = some o→G b = some o∨W.heap.size≤b∨ln b)∧∀ b,Hd b→W.heap.size≤b∨ln b:=by
 unfold Env.at_
 split
 ·rename_i k st;cases st<;>exact Iff.rfl
 ·exact Iff.rfl
def funVC (P:Program) (tab:FuncId→Option PSpec) (ic:IC) (rs:List IRes) (args:List Value) (G:Hp) (K:Value→Hp→Prop):Prop :=
 vc P tab (.no []) ic 0 ⟨argFr args,fun _=>none,G⟩ fun o _ σ=>match o with
  | .norm=>finK rs σ K
  | .ret=>finK rs σ K
  | .exit _=>False
def posE (sv:SV) (f:Nat→Bool→Prop):Prop:=match sv with
 | .c (.pos j st)=>f j st
 | _=>False
def seqVC (P:Program) (tab:FuncId→Option PSpec) (yc:YC) (k:Nat) (ic:IC) (rs:List IRes) (args:List Value) (G:Hp) (K:Value→Nat→Bool→Prop):Prop :=
 vc P tab yc ic 0 ⟨upd (argFr args) POS (.c (.pos k false)),fun _=>none,G⟩ fun o _ σ=>match o with
  | .norm=>finK rs σ fun v _=>posE (σ.fr POS) (K v)
  | .ret=>finK rs σ fun v _=>posE (σ.fr POS) (K v)
  | .exit _=>False

theorem args_frame {args:List Value} {n:Nat} (E:Nat→Value) (i:Nat):(argFr args i).rel E ((args.toArray++Array.replicate (n - args.toArray.size) undef).getD i undef):=by
 have h1:=argFr_rel E args i
 have:(args.toArray++Array.replicate (n - args.toArray.size) undef).getD i undef = args[i]?.getD undef:=by
  rw [Array.getD_eq_getD_getElem?,Array.getElem?_append]
  split
  ·simp
  ·rename_i hlt
   have:args[i]? = none:=List.getElem?_eq_none_iff.2 (by simpa using hlt)
   rw [this,Array.getElem?_replicate]
   split<;>rfl
 rw [this];exact h1

theorem sat_start {n:Nat} {args:List Value} (hn:args.length≤n) {G:Hp} {W:World} (hsub:Sub G W) {fr:Nat→SV} (hfr:∀ i,fr i = argFr args i∨∃ k st,fr i = .c (.pos k st)):Sat (Root.of W) G n (fun k=>k < 0) (fun _=>undef) ⟨fr,fun _=>none,G⟩ { tmps:=args.toArray++Array.replicate (n - args.toArray.size) undef,defers:=[] } W:=by
 refine ⟨⟨Beneath.refl _,hsub,fun b o h=>.inl h,fun _ _ e=>(by cases e),fun _ _ _ e=>(by cases e),fun _ _ e=>(by cases e),fun _ _ _ _ _ e=>(by cases e)⟩,fun i=>?_,fun _ _ e=>(by cases e),fun i=>?_,by simp;omega,rfl⟩
 ·rcases hfr i with h | ⟨k,st,h⟩
  ·simp only [h];exact argFr_ment _ args i
  ·simp only [h];trivial
 ·rcases hfr i with h | ⟨k,st,h⟩
  ·simp only [h];exact args_frame _ i
  ·simp only [h];trivial

theorem HdOf_start {W:World} {G:Hp} {b:Nat}:¬ HdOf (Root.of W) G b:=fun h=>h.elim (fun h=>h.1) (fun ⟨d,hd,_⟩=>by cases hd)
theorem marks_start {x:Prop} {W:World} {G:Hp} {ln:Nat→Prop}:MarksAt x [] ln G W:=⟨fun d hd=>(by cases hd),(fun D ⟨d,hd,_⟩=>by cases hd),List.Pairwise.nil⟩
structure Comp (P:Program) (f:FuncId) (ic:IC) (rs:List IRes) (nt:Nat):Prop where
 ex:∃ fn c b2,P.funcs[f]? = some fn∧fn.body = some c∧compC P fn.ntmps c 0 = some (ic,b2)∧compRes P fn.results.toList = some rs∧fn.ntmps = nt

theorem Comp.calls {f:FuncId} {ic:IC} {rs:List IRes} {nt:Nat} (C:Comp P f ic rs nt) (T:Tab P) {args:List Value} {G:Hp} {W:World} {K:Value→Hp→Prop} (hn:args.length≤nt) (hsub:Sub G W) (h:funVC P T.get ic rs args G K) :
  Calls P f args.toArray W fun e W'=>∃ v G',e = .returned v∧K v G'∧Grow G G'∧Sub G' W'∧(∀ b o,G' b = some o→G b = some o∨W.heap.size≤b)∧Below W.heap.size W W':=by
 obtain ⟨fn,c,b2,h1,h2,h3,h4,rfl⟩:=C.ex
 have hs:SatE (baseEnv (fun _=>False) G W) [] fn.ntmps 0 (fun _=>False) (fun _=>undef) ⟨argFr args,fun _=>none,G⟩ { tmps:=args.toArray++Array.replicate (fn.ntmps - args.toArray.size) undef,defers:=[] } W :=
  SatE.of (r:=Root.of W) (G0:=G) (fun _ h=>h) (fun _ h=>h.elim) (Agree.refl _ _) ⟨baseEnv_at.2 ⟨Beneath.refl _,fun b o h=>.inl h,fun b h=>(HdOf_start h).elim⟩,fun b hb=>hb.elim,hsub,marks_start⟩ (Grow.refl _) (sat_start hn hsub (fun i=>.inl rfl))
 refine body_sound T baseEnv_ok h1 h2 h3 h4 (K:=fun _ vs _ G=>FinP (K (wrapV vs) G)) hs h ?_
 intro σ' W' M E vs H' G' hk hg hd
 obtain ⟨q1,q2,_⟩:=baseEnv_at.1 hd.at_
 exact ⟨_,G',rfl,hk.out,hg,hd.sim.sub,fun b o e=>(q2 b o e).imp id (fun h=>h.resolve_right id),Beneath.below (w:=W) q1⟩

theorem Comp.seq {f:FuncId} {ic:IC} {rs:List IRes} {nt:Nat} (C:Comp P f ic rs nt) (T:Tab P) {sh:List Value→List Value} {pre:Nat→List Value→Hp→List (List Value)→Prop} {post:Bool→Value→Prop} (hn:∀ l args G Ys,pre l args G Ys→(sh args).length≤nt)
  (h:∀ l Y k args G Ys,pre l args G Ys→(Y.drop k).take Ys.length = Ys→seqVC P T.get ⟨l,Y,[],none⟩ k ic rs (sh args) G fun v j st=>post st v∧(st = false→j = k + Ys.length)):Sound P f sh (.seq pre post):=by
 intro e0 he0
 have main:∀ e:Env,e.pn = none→e.Ok P→∀ args G W Ys k,Sub G W→pre e.l args G Ys→(e.Y.drop k).take Ys.length = Ys→e.J k (fun _=>False) G W→Calls P f (sh args).toArray W fun en W'=>∃ v st j G',en = .returned v∧post st v∧Grow G G'∧Sub G' W'∧(st = false→j = k + Ys.length)∧(cond st e.Jx e.J) j (fun _=>False) G' W':=by
  intro e hpn he args G W Ys k hsub hpre hseg hJ
  obtain ⟨fn,c,b2,h1,h2,h3,h4,rfl⟩:=C.ex
  have hs:SatE e [] fn.ntmps 0 (fun _=>False) (fun _=>undef) ⟨upd (argFr (sh args)) POS (.c (.pos k false)),fun _=>none,G⟩ { tmps:=(sh args).toArray++Array.replicate (fn.ntmps - (sh args).toArray.size) undef,defers:=[] } W:=by
   refine SatE.of (r:=Root.of W) (G0:=G) (fun _ h=>h) (fun _ h=>h.elim) (Agree.refl _ _) ⟨?_,fun b hb=>hb.elim,hsub,marks_start⟩ (Grow.refl _) (sat_start (hn _ _ _ _ hpre) hsub (fun i=>?_))
   ·simp only [upd_same]
    exact he.st _ _ _ _ _ _ _ hJ (EnvStep.shrink hsub fun b hb=>(HdOf_start hb).elim)
   ·by_cases hi:i = POS
    ·rw [hi,upd_same];exact .inr ⟨k,false,rfl⟩
    ·rw [upd_other _ _ hi];exact .inl rfl
  refine body_sound T he h1 h2 h3 h4 (K:=fun σ vs _ G=>FinP (posE (σ.fr POS) fun j st=>post st (wrapV vs)∧(st = false→j = k + Ys.length))) hs (by rw [hpn];exact h e.l e.Y k args G Ys hpre hseg) ?_ hpn
  intro σ' W' M E vs H' G' hk hg hd
  have hk:=hk.out
  unfold posE at hk
  split at hk
  case h_2=>exact hk.elim
  rename_i j st hp
  have hat:=hd.at_
  rw [hp] at hat
  have hat:(cond st e.Jx e.J) j (HdOf ⟨W',Hand E H',[]⟩ G') G' W':=hat
  refine ⟨_,st,j,G',rfl,hk.1,hg,hd.sim.sub,hk.2, ?_⟩
  have sh:=EnvStep.shrink (Hd:=HdOf ⟨W',Hand E H',[]⟩ G') (Hd':=fun _=>False) hd.sim.sub fun b hb=>hb.elim
  cases st
  ·exact he.st _ _ _ _ _ _ _ hat sh
  ·exact he.stx _ _ _ _ _ _ _ hat sh
 exact main ⟨e0.l,e0.Y,e0.J,e0.Jx,none⟩ rfl ⟨he0.st,he0.stx,he0.y⟩
structure OwnFin (p:Prop):Prop where
 out:p
def ownK (t:TypeId) (k:Nat) (rs:List IRes) (σ:St) (K:Nat→List Value→Hp→Prop):Prop:=match rs with
 | [r]=>match resSV σ r with
  | some (.c (.row h n))=>match σ.H h with
   | some (.row none n' vs t' k')=>OwnFin (t' = t∧k' = k∧n' = n∧K n' vs σ.G)
   | _=>False
  | some (.c (.val (.slice none 0 0)))=>OwnFin (K 0 [] σ.G)
  | _=>False
 | _=>False
theorem compRes_nil {rvs:List ResultVar} (h:compRes P rvs = some []):rvs = []:=by
 cases rvs with
 | nil=>rfl
 | cons x r =>
  cases x with
  | tmp t =>
   simp only [compRes,Option.map_eq_some_iff] at h
   obtain ⟨_,_,h⟩:=h
   cases h
  | cell t ty =>
   simp only [compRes] at h
   split at h
   ·cases (cond_inj h)
   ·cases h
theorem res_one {w0:Root} {W:World} {G0:Hp} {n:Nat} {M:Nat→Prop} {E:Nat→Value} {σ:St} {a:Act} (hs:Sat w0 G0 n M E σ a W) {rvs:List ResultVar} {r:IRes} {sv:SV} (hc:compRes P rvs = some [r]) (h:resSV σ r = some sv) :
  ∃ v,(rvs.mapM (resSem a.tmps)).run P W = .ok [v] W∧sv.rel E v:=by
 cases rvs with
 | nil=>cases hc
 | cons x rest =>
  cases x with
  | tmp t =>
   simp only [compRes,Option.map_eq_some_iff] at hc
   obtain ⟨rs',e1,e2⟩:=hc
   injection e2 with e2 e3
   subst e2 e3
   rw [compRes_nil e1]
   exact ⟨_,by simp [List.mapM_cons,resSem],resSV_run hs h⟩
  | cell t ty =>
   simp only [compRes] at hc
   split at hc
   ·rename_i m g rs' hn hag hrs
    cases hb:(g || Nat.beq m 1) with
    | false=>rw [hb] at hc;cases hc
    | true =>
     rw [hb] at hc
     simp only [cond_true,Option.some.injEq,List.cons.injEq] at hc
     obtain ⟨e2,e3⟩:=hc
     subst e2 e3
     rw [compRes_nil hrs]
     obtain ⟨ad,v,e1,hrun,hrel⟩:=resSV_cell hs hn hag ((bool_or hb).imp id Nat.eq_of_beq_eq_true) h
     exact ⟨v,by simp [List.mapM_cons,resSem,e1,asAddr,hrun],hrel⟩
   ·cases hc
def ownVC (P:Program) (tab:FuncId→Option PSpec) (t:TypeId) (k:Nat) (ic:IC) (rs:List IRes) (args:List Value) (G:Hp) (K:Nat→List Value→Hp→Prop):Prop :=
 vc P tab (.no []) ic 0 ⟨argFr args,fun _=>none,G⟩ fun o _ σ=>match o with
  | .norm=>ownK t k rs σ K
  | .ret=>ownK t k rs σ K
  | .exit _=>False
theorem Comp.owns {f:FuncId} {ic:IC} {rs:List IRes} {nt:Nat} (C:Comp P f ic rs nt) (T:Tab P) {t:TypeId} {k:Nat} {args:List Value} {G:Hp} {W:World} {K:Nat→List Value→Hp→Prop} (hn:args.length≤nt) (hsub:Sub G W)
  (h:ownVC P T.get t k ic rs args G K):Calls P f args.toArray W fun e W' =>
   ∃ v n vs G',e = .returned v∧K n vs G'∧(∃ a c,v = .slice a n c)∧W'.ownsRow W.heap.size t k v n vs∧(∀ u∈vs,u.oneCell' = true)∧(∀ b,blkOf v = some b→G' b = none) ∧
    Grow G G'∧Sub G' W'∧(∀ b o,G' b = some o→G b = some o∨W.heap.size≤b)∧Below W.heap.size W W':=by
 obtain ⟨fn,c,b2,h1,h2,h3,h4,rfl⟩:=C.ex
 have hs:SatE (baseEnv (fun _=>False) G W) [] fn.ntmps 0 (fun _=>False) (fun _=>undef) ⟨argFr args,fun _=>none,G⟩ { tmps:=args.toArray++Array.replicate (fn.ntmps - args.toArray.size) undef,defers:=[] } W :=
  SatE.of (r:=Root.of W) (G0:=G) (fun _ h=>h) (fun _ h=>h.elim) (Agree.refl _ _) ⟨baseEnv_at.2 ⟨Beneath.refl _,fun b o h=>.inl h,fun b h=>(HdOf_start h).elim⟩,fun b hb=>hb.elim,hsub,marks_start⟩ (Grow.refl _) (sat_start hn hsub (fun i=>.inl rfl))
 refine body_end T baseEnv_ok h1 h2 h3 hs h ?_ (fun t C ht=>by cases ht) (.inl rfl)
 intro σ' a' W' M E hk hg h5 h6
 obtain ⟨q1,q2,q3⟩:=baseEnv_at.1 h5.at_
 have fin:∀ {r:IRes} {v:Value} {n:Nat} {vs:List Value},(fn.results.toList.mapM (resSem a'.tmps)).run P W' = .ok [v] W'→(∃ a c,v = .slice a n c)→W'.ownsRow W.heap.size t k v n vs→(∀ u∈vs,u.oneCell' = true)→(∀ b,blkOf v = some b→σ'.G b = none)→K n vs σ'.G →
   ∃ v,(results fn a'.tmps).run P W' = .ok v W'∧∃ v2 n vs G',Ending.returned v = .returned v2∧K n vs G'∧(∃ a c,v2 = .slice a n c)∧W'.ownsRow W.heap.size t k v2 n vs∧(∀ u∈vs,u.oneCell' = true)∧(∀ b,blkOf v2 = some b→G' b = none)∧Grow G G'∧Sub G' W'∧(∀ b o,G' b = some o→G b = some o∨W.heap.size≤b)∧Below W.heap.size W W':=fun {r v n vs} hrun hsl hown hone hpr hpost =>
  ⟨v,results_run hrun,v,n,vs, σ'.G,rfl,hpost,hsl,hown,hone,hpr,hg,h6.sim.sub,fun b o e=>(q2 b o e).imp id (fun h=>h.resolve_right id),Beneath.below (w:=W) q1⟩
 unfold ownK at hk
 split at hk
 case h_2=>exact hk.elim
 rename_i r
 split at hk
 ·rename_i h' n e'
  obtain ⟨v,hrun,hf,a0,c0,hE⟩:=res_one h6 h4 e'
  split at hk
  case h_2=>exact hk.elim
  rename_i n' vs t' k' eH
  obtain ⟨rfl,rfl,rfl,hpost⟩:=hk.out
  obtain ⟨hown,hone,hmine⟩:=h6.sim.own h' _ eH
  have hpr:=h6.sim.priv h' _ eH rfl
  subst hf
  refine fin (r:=r) hrun ⟨a0,c0,hE⟩ ⟨hown.1, ?_⟩ hone hpr hpost
  rcases hown.2 with h | ⟨g,cap,cur,r1,r2,r3⟩
  ·exact .inl h
  ·refine .inr ⟨g,cap,cur,r1, ?_,r3⟩
   have hb:blkOf (E h') = some g:=by rw [r1];rfl
   exact (q3 g (.inl ⟨⟨h',_,eH,hb⟩,hpr g hb⟩)).resolve_right id
 ·rename_i e'
  obtain ⟨v,hrun,hf⟩:=res_one h6 h4 e'
  have hf:v = .slice none 0 0:=hf
  subst hf
  exact fin (r:=r) hrun ⟨none,0,rfl⟩ ⟨by simp, .inl ⟨rfl,rfl⟩⟩ (fun u hu=>by cases hu) (fun b hb=>by cases hb) hk.out
 ·exact hk.elim

theorem Comp.own {f:FuncId} {ic:IC} {rs:List IRes} {nt:Nat} (C:Comp P f ic rs nt) (T:Tab P) {sh:List Value→List Value} {t:TypeId} {k:Nat} {pre:List Value→Hp→Prop} {post:List Value→Nat→List Value→Hp→Prop} (hn:∀ args G,pre args G→(sh args).length≤nt)
  (hm:∀ args n vs G G',Grow G G'→post args n vs G→post args n vs G') (h:∀ args G,pre args G→ownVC P T.get t k ic rs (sh args) G fun n vs G'=>post args n vs G'):Sound P f sh (.own t k pre post) :=
 ⟨hm,fun args G W hsub hp=>C.owns T (hn args G hp) hsub (h args G hp)⟩

theorem Comp.fn {f:FuncId} {ic:IC} {rs:List IRes} {nt:Nat} (C:Comp P f ic rs nt) (T:Tab P) {sh:List Value→List Value} {pre:List Value→Hp→Prop} {val:List Value→Value} (hn:∀ args G,pre args G→(sh args).length≤nt)
  (h:∀ args G,pre args G→funVC P T.get ic rs (sh args) G fun v _=>v = val args):Sound P f sh (.fn pre val):=fun args G W hs hp =>
 (C.calls T (hn args G hp) hs (h args G hp)).mono fun e W' ⟨v,_,h1,h2,_,_,_,h3⟩=>⟨h2 ▸ h1,h3⟩
theorem Comp.sca {f:FuncId} {ic:IC} {rs:List IRes} {nt:Nat} (C:Comp P f ic rs nt) (T:Tab P) {sh:List Value→List Value} {pre:List Value→Hp→Prop} {post:List Value→Hp→Value→Prop} (hn:∀ args G,pre args G→(sh args).length≤nt)
  (h:∀ args G,pre args G→funVC P T.get ic rs (sh args) G fun v _=>post args G v):Sound P f sh (.sca pre post):=fun args G W hs hp =>
 (C.calls T (hn args G hp) hs (h args G hp)).mono fun e W' ⟨v,_,h1,h2,_,_,_,h3⟩=>⟨v,h1,h2,h3⟩
theorem Comp.rel {f:FuncId} {ic:IC} {rs:List IRes} {nt:Nat} (C:Comp P f ic rs nt) (T:Tab P) {sh:List Value→List Value} {pre:List Value→Hp→Prop} {post:List Value→Value→Hp→Prop} (hn:∀ args G,pre args G→(sh args).length≤nt)
  (hm:∀ args v G G',Grow G G'→post args v G→post args v G') (h:∀ args G,pre args G→funVC P T.get ic rs (sh args) G fun v G'=>post args v G'):Sound P f sh (.rel pre post) :=
 ⟨hm,fun args G W hs hp=>C.calls T (hn args G hp) hs (h args G hp)⟩

end
end Go.Pal

namespace Go.Pal
open Go.RowKit

def LE.val (x:LE):Value:=match x.lb with
 | .cells _ _=>.pointer (some ⟨x.b,0,none⟩)
 | .map _ _=>.map (some x.b)
 | .row _ n cap _ _ _ _=>.slice (some ⟨x.b,0,none⟩) n cap
def lentE (ls:List LE) (i:Nat):Value:=match ls[i]? with
 | some x=>x.val
 | none=>undef

def relArgs (E:Nat→Value) (m:Nat):List SV→List Value→Prop
 | [],[]=>True
 | sv :: svs,v :: vs=>sv.rel E v∧sv.ment (· < m)∧relArgs E m svs vs
 | _,_=>False
def lookSV:List SV→Nat→SV
 | [],_=>.c .any
 | x :: r,i=>match i with
  | 0=>x
  | i + 1=>lookSV r i
def lookOB:List OB→Nat→Option OB
 | [],_=>none
 | x :: r,i=>match i with
  | 0=>some x
  | i + 1=>lookOB r i
def obOk (E:Nat→Value) (m:Nat) (x:LE) (ob:OB):Prop:=match x.lb with
 | .cells vs t=>∃ cs,ob = .cells (.named x.b) cs t∧relL E cs vs∧∀ c∈cs,c.ment (· < m)
 | .map es c=>ob = .map (.named x.b) es c
 | .row _ n cap vs rest t k=>ob = .xrow x.b n cap vs rest t k
theorem obOk_has {E:Nat→Value} {m:Nat} {x:LE} {ob:OB} (h:obOk E m x ob) {v:Value} {b:Nat} (e:ob.has v b):blkOf v = some b:=by
 obtain ⟨xb,w,lb⟩:=x
 cases lb with
 | cells vs t=>obtain ⟨cs,rfl,_⟩:=h;exact e
 | map es c=>have h:ob = .map (.named xb) es c:=h;subst h;exact e
 | row n0 n cap vs rest t k=>have h:ob = .xrow xb n cap vs rest t k:=h;subst h;exact e
def obsOk (E:Nat→Value) (m:Nat):List LE→List OB→Prop
 | [],[]=>True
 | x :: r,ob :: obs=>obOk E m x ob∧obsOk E m r obs
 | _,_=>False
def finL (H:Nat→Option OB):Nat→List LE→List LB→Prop
 | _,[],ns=>ns = []
 | i,x :: r,ns=>∃ n:LB,(match n with
   | .cells vs t=>∃ cs,H i = some (.cells (.named x.b) cs t)∧toValsH H cs = some vs
   | .map es c=>H i = some (.map (.named x.b) es c)
   | .row n0 n cap vs rest t k=>H i = some (.xrow x.b n cap vs rest t k)∧n0≤n)∧x.lb.alike n ∧
   match x.w with
   | true=>∃ ns',ns = n :: ns'∧finL H (i + 1) r ns'
   | false=>n = x.lb∧finL H (i + 1) r ns

structure FinS (H:Nat→Option OB) (ls:List LE) (K:List LB→Prop):Prop where
 ex:∃ ns,finL H 0 ls ns∧K ns
def finS (rs:List IRes) (σ:St) (ls:List LE) (K:Value→List LB→Hp→Prop):Prop:=resF rs σ fun vs H G=>FinS H ls fun ns=>K (wrapV vs) ns G

structure CompAt (P:Program) (f:FuncId) (m:Nat) (ic:IC) (rs:List IRes) (nt:Nat):Prop where
 ex:∃ fn c b2,P.funcs[f]? = some fn∧fn.body = some c∧compC P fn.ntmps c m = some (ic,b2)∧compRes P fn.results.toList = some rs∧fn.ntmps = nt

section
variable {P:Program} {W:World} {G:Hp} {ls:List LE}

theorem relArgs_look {E:Nat→Value} {m:Nat}:∀ {svs:List SV} {args:List Value},relArgs E m svs args→∀ i,(lookSV svs i).rel E (args[i]?.getD undef)∧(lookSV svs i).ment (· < m)
 | [],[],_,i=>⟨trivial,trivial⟩
 | sv :: svs,v :: vs,h,0=>⟨h.1,h.2.1⟩
 | sv :: svs,v :: vs,h,i + 1=>by simpa [lookSV] using relArgs_look h.2.2 i
 | [],_ :: _,h,_=>h.elim
 | _ :: _,[],h,_=>h.elim
theorem obsOk_look {E:Nat→Value} {m:Nat}:∀ {ls:List LE} {obs:List OB},obsOk E m ls obs→∀ i ob,lookOB obs i = some ob→∃ x,ls[i]? = some x∧obOk E m x ob
 | [],[],_,i,ob,e=>by cases e
 | x :: ls,o :: obs,h,0,ob,e=>by cases e;exact ⟨x,rfl,h.1⟩
 | x :: ls,o :: obs,h,i + 1,ob,e=>by
  obtain ⟨y,h1,h2⟩:=obsOk_look h.2 i ob e
  exact ⟨y,by simpa using h1,h2⟩
 | [],_ :: _,h,_,_,_=>h.elim
 | _ :: _,[],h,_,_,_=>h.elim

theorem finL_spec {H:Nat→Option OB}:∀ {ls:List LE} {i:Nat} {ns:List LB},finL H i ls ns→∀ j x,ls[j]? = some x→∃ n:LB,(match n with
   | .cells vs t=>∃ cs,H (i + j) = some (.cells (.named x.b) cs t)∧toValsH H cs = some vs
   | .map es c=>H (i + j) = some (.map (.named x.b) es c)
   | .row n0 n cap vs rest t k=>H (i + j) = some (.xrow x.b n cap vs rest t k)∧n0≤n)∧(x.w = false→n = x.lb)
 | [],i,ns,_,j,x,e=>by simp at e
 | y :: r,i,ns,h,j,x,e=>by
  obtain ⟨n,h1,h2,h3⟩:=h
  cases j with
  | zero =>
   simp only [List.getElem?_cons_zero,Option.some.injEq] at e
   subst e
   refine ⟨n,by simpa using h1,fun hw=>?_⟩
   rw [hw] at h3
   exact h3.1
  | succ j =>
   have e':r[j]? = some x:=by simpa using e
   have:∃ ns',finL H (i + 1) r ns':=by
    cases hw:y.w with
    | true=>rw [hw] at h3;obtain ⟨ns',_,h4⟩:=h3;exact ⟨ns',h4⟩
    | false=>rw [hw] at h3;exact ⟨ns,h3.2⟩
   obtain ⟨ns',h4⟩:=this
   have:=finL_spec h4 j x e'
   rwa [show i + 1 + j = i + (j + 1) by omega] at this

theorem st_sound (T:Tab P) {f:FuncId} {m:Nat} {ic:IC} {rs:List IRes} {nt:Nat} (C:CompAt P f m ic rs nt) {args:List Value} (hn:args.length≤nt) (hsub:Sub G W) (hls:∀ x∈ls,W.heap[x.b]? = some x.lb.obj∧G x.b = none∧x.lb.one) (hnd:(ls.map (·.b)).Nodup) (hm:ls.length≤m)
  {svs:List SV} {obs:List OB} (ha:relArgs (lentE ls) m svs args) (ho:obsOk (lentE ls) m ls obs) {K:Value→List LB→Hp→Prop}
  (h:vc P T.get (.no []) ic m ⟨lookSV svs,lookOB obs,G⟩ fun o _ σ=>match o with
   | .norm=>finS rs σ ls K
   | .ret=>finS rs σ ls K
   | .exit _=>False) :
  Calls P f args.toArray W fun e W'=>∃ v ns G',e = .returned v∧K v ns G'∧LentTo W' ls ns∧Grow G G'∧Sub G' W'∧(∀ b o,G' b = some o→G b = some o∨W.heap.size≤b)∧Beneath ⟨W,lentW ls,[]⟩ W':=by
 obtain ⟨fn,c,b2,hf,hb,hc,hr,hnt⟩:=C.ex
 subst hnt
 have hE:∀ i x,ls[i]? = some x→lentE ls i = x.val:=fun i x e=>by simp [lentE,e]
 have hval:∀ x:LE,blkOf x.val = some x.b:=fun x=>by cases x with | mk b w lb=>cases lb<;>rfl
 have hmem:∀ i x,ls[i]? = some x→x∈ls:=fun i x e=>List.mem_of_getElem? e
 have hok:∀ i ob,lookOB obs i = some ob→∃ x,ls[i]? = some x∧obOk (lentE ls) m x ob:=obsOk_look ho
 have hlow:∀ b,(∃ x∈ls,x.b = b)→b < W.heap.size∧G b = none:=fun b ⟨x,hx,e⟩=>by
  obtain ⟨k1,k2,_⟩:=hls x hx
  subst e
  exact ⟨(Array.getElem?_eq_some_iff.1 k1).1,k2⟩
 have hsat:Sat ⟨W,fun b=>∃ x∈ls,x.b = b,[]⟩ G fn.ntmps (fun k=>k < m) (lentE ls) ⟨lookSV svs,lookOB obs,G⟩ { tmps:=args.toArray++Array.replicate (fn.ntmps - args.toArray.size) undef,defers:=[] } W:=by
  refine ⟨⟨Beneath.refl _,hsub,fun b o h=>.inl h, ?_, ?_, ?_, ?_⟩,fun i=>(relArgs_look ha i).2, ?_, ?_,by simp;omega,rfl⟩
  ·intro i ob e
   obtain ⟨x,hx,hob⟩:=hok i ob e
   obtain ⟨k1,k2,k3⟩:=hls x (hmem i x hx)
   obtain ⟨b,w,lb⟩:=x
   cases lb with
   | cells vs t =>
    obtain ⟨cs,rfl,h1,h2⟩:=hob
    exact ⟨b,vs,hE i _ hx, .inr ⟨_,hmem i _ hx,rfl⟩,k1,h1,k3,rfl⟩
   | map es c =>
    have hob:ob = .map (.named b) es c:=hob
    subst hob
    exact ⟨b,hE i _ hx, .inr ⟨_,hmem i _ hx,rfl⟩,k1,rfl⟩
   | row n0 n cap vs rest t k =>
    have hob:ob = .xrow b n cap vs rest t k:=hob
    subst hob
    obtain ⟨o1,o2,o3,o4,o5,o6⟩:=k3
    exact ⟨hE i _ hx, .inr ⟨_,hmem i _ hx,rfl⟩,k1,o2,o3,o4,o5,o6⟩
  ·intro i ob v e e2
   obtain ⟨x,hx,hob⟩:=hok i ob e
   obtain ⟨b,w,lb⟩:=x
   cases lb with
   | cells vs t=>obtain ⟨cs,rfl,_⟩:=hob;cases e2
   | map es c=>have hob:ob = .map (.named b) es c:=hob;subst hob;cases e2
   | row n0 n cap vs rest t k=>have hob:ob = .xrow b n cap vs rest t k:=hob;subst hob;cases e2
  ·intro i ob e e2 b hb
   obtain ⟨x,hx,hob⟩:=hok i ob e
   replace hb:=obOk_has hob hb
   rw [hE i x hx,hval x] at hb
   cases hb
   exact (hls x (hmem i x hx)).2.1
  ·intro i ob i' ob' b e e2 e3 e4 e5
   obtain ⟨x,hx,hob⟩:=hok i ob e
   obtain ⟨x',hx',hob'⟩:=hok i' ob' e2
   replace e4:=obOk_has hob e4
   replace e5:=obOk_has hob' e5
   rw [hE i x hx,hval x] at e4
   rw [hE i' x' hx',hval x'] at e5
   have h1:(ls.map (·.b))[i]? = some b:=by simp [hx];simpa using e4
   have h2:(ls.map (·.b))[i']? = some b:=by simp [hx'];simpa using e5
   have l1:=(List.getElem?_eq_some_iff.1 h1).1
   exact (List.getElem?_inj l1 hnd).1 (h1.trans h2.symm)
  ·intro i ob e
   obtain ⟨x,hx,hob⟩:=hok i ob e
   refine ⟨Nat.lt_of_lt_of_le (List.getElem?_eq_some_iff.1 hx).1 hm, ?_⟩
   obtain ⟨b,w,lb⟩:=x
   cases lb with
   | cells vs t=>obtain ⟨cs,rfl,_,h2⟩:=hob;exact h2
   | map es c=>have hob:ob = .map (.named b) es c:=hob;subst hob;trivial
   | row n0 n cap vs rest t k=>have hob:ob = .xrow b n cap vs rest t k:=hob;subst hob;trivial
  ·intro i
   have h1:=(relArgs_look ha i).1
   have:(args.toArray++Array.replicate (fn.ntmps - args.toArray.size) undef).getD i undef = args[i]?.getD undef:=by
    rw [Array.getD_eq_getD_getElem?,Array.getElem?_append]
    split
    ·simp
    ·rename_i hlt
     have:args[i]? = none:=List.getElem?_eq_none_iff.2 (by simpa using hlt)
     rw [this,Array.getElem?_replicate]
     split<;>rfl
   rw [this];exact h1
 have hs:SatE (baseEnv (fun b=>∃ x∈ls,x.b = b) G W) [] fn.ntmps m (fun _=>False) (lentE ls) ⟨lookSV svs,lookOB obs,G⟩ { tmps:=args.toArray++Array.replicate (fn.ntmps - args.toArray.size) undef,defers:=[] } W :=
  SatE.of (r:=⟨W,fun b=>∃ x∈ls,x.b = b,[]⟩) (G0:=G) (fun _ h=>h) (fun _ h=>h.elim) (Agree.refl _ _) ⟨baseEnv_at.2 ⟨Beneath.refl ⟨W,_,[]⟩,fun b o h=>.inl h,fun b h=>h.elim (fun h=>.inr h.1) (fun ⟨d,hd,_⟩=>by cases hd)⟩,fun b hb=>(hlow b hb).1,hsub,marks_start⟩ (Grow.refl _) hsat
 refine body_sound T baseEnv_ok hf hb hc hr (K:=fun _ vs H G=>FinS H ls fun ns=>K (wrapV vs) ns G) hs h ?_
 intro σ' W' M E vs H' G' ⟨ns,hfl,k1⟩ hg hd
 obtain ⟨hbl,hnewG,_⟩:=baseEnv_at.1 hd.at_
 have hsim:=hd.sim
 -- each lent block,at the end
 have each:∀ (H'':Nat→Option OB),H'' = H'→∀ (i:Nat) (x:LE) (n:LB),(match n with
   | .cells vs t=>∃ cs,H'' i = some (.cells (.named x.b) cs t)∧toValsH H'' cs = some vs
   | .map es c=>H'' i = some (.map (.named x.b) es c)
   | .row n0 n cap vs rest t k=>H'' i = some (.xrow x.b n cap vs rest t k)∧n0≤n)→W'.heap[x.b]? = some n.obj∧n.one∧G' x.b = none:=by
  rintro _ rfl i ⟨b,w,lb⟩ n hn
  cases n with
  | cells us t =>
   obtain ⟨cs,h1,h2⟩:=hn
   obtain ⟨b',vs',e1,e2,e3,e4,e5,e6⟩:=hsim.own i _ h1
   have e6:b = b':=e6
   subst e6
   have:=toValsH_rel (fun h ob v e e'=>hsim.name e e') e4 h2
   subst this
   exact ⟨e3,e5,hsim.priv i _ h1 rfl b (by rw [e1];rfl)⟩
  | map es c =>
   obtain ⟨b',e1,e2,e3,e6⟩:=hsim.own i _ hn
   have e6:b = b':=e6
   subst e6
   exact ⟨e3,trivial,hsim.priv i _ hn rfl b (by rw [e1];rfl)⟩
  | row n0 n cap vs rest t k =>
   obtain ⟨f1,f2,f3,f4,f5,f6,f7,f8⟩:=hsim.own i _ hn.1
   exact ⟨f3,⟨hn.2,f4,f5,f6,f7,f8⟩,hsim.priv i _ hn.1 rfl b (by rw [f1];rfl)⟩
 have lent:∀ (l:List LE) (i:Nat) (ns:List LB),finL H' i l ns→LentTo W' l ns:=by
  intro l
  induction l with
  | nil=>intro i ns h;exact h
  | cons x r ih =>
   intro i ns h
   obtain ⟨n,h1,h2,h3⟩:=h
   obtain ⟨q1,q2,_⟩:=each H' rfl i x n h1
   cases hw:x.w with
   | true =>
    rw [hw] at h3
    obtain ⟨ns',rfl,h4⟩:=h3
    simp only [LentTo,hw]
    exact ⟨q1,q2,h2,ih _ _ h4⟩
   | false =>
    rw [hw] at h3
    simp only [LentTo,hw]
    exact ih _ _ h3.2
 refine ⟨_,ns,G',rfl,k1,lent ls 0 ns hfl,hg,hsim.sub, ?_, ?_⟩
 ·intro b o e
  rcases hnewG b o e with h | h | ⟨x,hx,rfl⟩
  ·exact .inl h
  ·exact .inr h
  ·obtain ⟨j,hj,e2⟩:=List.mem_iff_getElem.1 hx
   obtain ⟨n,h1,_⟩:=finL_spec hfl j x (by rw [List.getElem?_eq_getElem hj,e2])
   have:=(each H' rfl _ x n h1).2.2
   rw [this] at e;cases e
 ·refine ⟨hbl.os,hbl.tape,hbl.output,hbl.size,fun k hk hn=>?_⟩
  by_cases hin:∃ x∈ls,x.b = k
  ·obtain ⟨x,hx,rfl⟩:=hin
   have hw:x.w = false:=by
    cases hw:x.w with
    | false=>rfl
    | true=>exact absurd ⟨x,hx,hw,rfl⟩ hn
   obtain ⟨j,hj,e2⟩:=List.mem_iff_getElem.1 hx
   obtain ⟨n,h1,h2⟩:=finL_spec hfl j x (by rw [List.getElem?_eq_getElem hj,e2])
   have h3:=(each H' rfl _ x n h1).1
   rw [h2 hw] at h3
   exact h3.trans (hls x hx).1.symm
  ·exact hbl.block k hk hin
end
abbrev o1 (d:Nat) (op:IOp) (h:Nat):IOper:=.mk (some d) op none h none false [] false
abbrev o2 (op:IOp) (h:Nat):IOper:=.mk none op none h none false [] false
abbrev o3 (d:Nat) (op:IOp) (h:Nat):IOper:=.mk (some d) op none h (some []) true [] false
abbrev o4 (op:IOp) (h:Nat):IOper:=.mk none op none h (some []) true [] false
end Go.Pal

namespace Go.Proofs.YtefnikpoimaiiaaGreat
open Go.Pal
def ir5:IC :=
 .seq (.reg 0 2 [o1 1 (.box 25 (.t 0)) 0,o1 2 (.mv (.k (.bool .false))) 1]) (.seq (.seq (.reg 2 1 [o1 3 (.mv (.k (.int .i64 0))) 2]) (.block 0 (.loop (.seq (.seq (.reg 3 5 [o1 4 (.mv (.t 3)) 3,o1 5 (.faddr 1 (.t 1)) 4,o1 6 (.load 1 .false (.t 5)) 5,o1 7 (.len (.t 6)) 6,o1 8 (.bin .lss (.t 4) (.t 7)) 7]) (.cond (.t 8) .skip (.exit 0))) (.seq (.block 1 (.seq (.reg 8 8 [o1 11 (.faddr 1 (.t 1)) 8,o1 12 (.load 1 .false (.t 11)) 9,o1 13 (.mv (.t 3)) 10,o1 14 (.iaddr 5 (.t 12) (.t 13)) 11,o1 15 (.faddr 4 (.t 14)) 12,o1 16 (.load 1 .false (.t 15)) 13,o1 17 (.call 29 [.t 16]) 14,o1 18 (.un .not (.t 17)) 15]) (.cond (.t 18) (.seq
 (.reg 16 1 [o1 2 (.mv (.k (.bool .false))) 16]) .ret) .skip))) (.reg 17 3 [o1 9 (.mv (.t 3)) 17,o1 10 (.bin .add (.t 9) (.k (.int .i64 1))) 18,o1 3 (.mv (.t 10)) 19])))))) (.seq (.reg 20 10 [o1 19 (.faddr 0 (.t 1)) 20,o1 20 (.load 1 .false (.t 19)) 21,o1 21 (.call 29 [.t 20]) 22,o1 22 (.mv (.t 21)) 23, .mk (.some 23) (.faddr 1 (.t 1)) (.some (22, .true)) 24 .none .false [] .false, .mk (.some 24)
 (.load 1 .false (.t 23)) (.some (22, .true)) 25 .none .false [] .false, .mk (.some 25) (.len (.t 24)) (.some (22, .true)) 26 .none .false [] .false, .mk (.some 26) (.bin .leq (.t
 25) (.k (.int .i64 12))) (.some (22, .true)) 27 .none .false [] .false,o1 27 (.pick (.t 22) (.t 26) (.k (.bool .false))) 28,o1 2 (.mv (.t 27)) 29]) .ret))
def rs5:List IRes:=[.tmp 2]
set_option maxRecDepth 100000 in
theorem comp5:Comp Tryz.prog 5 ir5 rs5 28:=⟨⟨_,_,30,Tryz.func5,rfl,by kernel_rfl,by kernel_rfl,rfl⟩⟩
theorem body5:HasBody Tryz.prog 5:=hasBody_of (by kernel_rfl)

def ir6:IC :=
 .seq (.reg 0 2 [o1 1 (.box 25 (.t 0)) 0,o1 2 (.mv (.k (.int .i64 0))) 1]) (.seq (.reg 2 4 [o1 14 (.faddr 1 (.t 1)) 2,o1 15 (.load 1 .false (.t 14)) 3,o1 16 (.len (.t 15)) 4,o1 3 (.mv (.t 16)) 5]) (.seq (.seq (.reg 6 8 [o1 17 (.mv (.t 3)) 6,o1 18 (.bin .gtr (.t 17) (.k (.int .i64 10))) 7,o1 19 (.mv (.t 18)) 8, .mk (.some 20) (.faddr 0 (.t 1)) (.some (19, .false)) 9
 .none .false [] .false, .mk (.some 21) (.load 1 .false (.t 20)) (.some (19, .false)) 10 .none .false [] .false, .mk (.some 22) (.len (.t 21)) (.some (19, .false)) 11 .none .false
 [] .false, .mk (.some 23) (.bin .gtr (.t 22) (.k (.int .i64 60))) (.some (19, .false)) 12 .none .false [] .false,o1 24 (.pick (.t 19) (.k (.bool .true)) (.t 23)) 13]) (.cond (.t 24) (.seq (.reg 14 1 [o1 2 (.mv (.k (.int .i64 3))) 14]) .ret) .skip)) (.seq (.seq (.reg 15 1 [o1 4 (.mv (.k (.int .i64 0))) 15]) (.block 0 (.loop (.seq (.seq (.reg 16 3 [o1 25 (.mv (.t 4)) 16,o1 26 (.mv (.t 3)) 17,o1 27 (.bin .lss (.t 25) (.t 26)) 18]) (.cond (.t 27) .skip (.exit 0))) (.seq
 (.block 1 (.seq (.reg 19 8 [o1 30 (.faddr 1 (.t 1)) 19,o1 31 (.load 1 .false (.t 30)) 20,o1 32 (.mv (.t 4)) 21,o1 33 (.iaddr 5 (.t 31) (.t 32)) 22,o1 34 (.faddr 4 (.t 33)) 23,o1 35 (.load 1 .false (.t 34)) 24,o1 36 (.len (.t 35)) 25,o1 37 (.bin .gtr (.t 36) (.k (.int .i64 60))) 26]) (.cond (.t 37) (.seq (.reg 27 1 [o1 2 (.mv (.k (.int .i64 3))) 27]) .ret)
 .skip))) (.reg 28 3 [o1 28 (.mv (.t 4)) 28,o1 29 (.bin .add (.t 28) (.k (.int .i64 1))) 29,o1 4 (.mv (.t 29)) 30])))))) (.seq (.seq (.reg 31 4 [o1 38 (.faddr 0 (.t 1)) 31,o1 39 (.load 1 .false (.t 38)) 32,o1 40 (.call 30 [.t 39]) 33,o1 41 (.un .not (.t 40)) 34])
 (.cond (.t 41) (.seq (.reg 35 1 [o1 2 (.mv (.k (.int .i64 4))) 35]) .ret) .skip)) (.seq (.seq (.reg 36 1 [o1 5 (.mv (.k (.int .i64 0))) 36]) (.block 2 (.loop (.seq (.seq (.reg 37 3 [o1 42 (.mv (.t 5)) 37,o1 43 (.mv (.t 3)) 38,o1 44 (.bin .lss (.t 42) (.t 43)) 39]) (.cond (.t 44) .skip (.exit 2))) (.seq (.block 3 (.seq (.reg 40 8 [o1 47 (.faddr 1 (.t 1)) 40,o1 48 (.load 1 .false (.t 47)) 41,o1 49 (.mv (.t 5)) 42,o1 50 (.iaddr 5 (.t 48) (.t 49)) 43,o1 51 (.faddr 4 (.t 50)) 44,o1 52 (.load 1 .false (.t 51)) 45,o1 53 (.call 30 [.t 52]) 46,o1 54 (.un .not (.t 53)) 47]) (.cond (.t 54) (.seq (.reg 48 1 [o1 2 (.mv (.k (.int .i64 4))) 48]) .ret) .skip))) (.reg 49 3 [o1 45 (.mv (.t 5)) 49,o1 46 (.bin .add (.t 45) (.k (.int .i64 1))) 50,o1 5 (.mv (.t 46)) 51]))))))
 (.seq (.seq (.reg 52 1 [o1 6 (.mv (.k (.int .i64 0))) 52]) (.block 4 (.loop (.seq (.seq (.reg 53 3 [o1 55 (.mv (.t 6)) 53,o1 56 (.mv (.t 3)) 54,o1 57 (.bin .lss (.t 55) (.t 56)) 55]) (.cond (.t 57)
 .skip (.exit 4))) (.seq (.block 5 (.seq (.reg 56 8 [o1 60 (.faddr 1 (.t 1)) 56,o1 61 (.load 1 .false (.t 60)) 57,o1 62 (.mv (.t 6)) 58,o1 63 (.iaddr 5 (.t 61) (.t 62)) 59,o1 64 (.faddr 0 (.t 63)) 60,o1 65 (.load 1 .false (.t 64)) 61,o1 66 (.call 31 [.t 65, .k (.int .i64 1), .k (.int .i64 999)]) 62,o1 67 (.un .not (.t 66)) 63]) (.cond (.t 67) (.seq (.reg 64 1 [o1 2 (.mv (.k (.int .i64 2))) 64]) .ret) .skip))) (.reg 65 3 [o1 58 (.mv (.t 6)) 65,o1 59 (.bin .add (.t 58) (.k (.int .i64 1))) 66,o1 6 (.mv (.t 59)) 67])))))) (.seq (.seq (.reg 68 1 [o1 7 (.mv (.k (.int .i64 0))) 68]) (.block 6 (.loop (.seq (.seq (.reg 69 3 [o1 68 (.mv (.t 7)) 69,o1 69 (.mv (.t 3)) 70,o1 70 (.bin .lss (.t 68) (.t 69)) 71]) (.cond (.t 70) .skip (.exit 6))) (.seq (.block 7 (.seq (.draw 72 10 [1] [] [o3 73 (.load 2 .true (.t 1)) 72,o3 74 (.faddr 1 (.t 1)) 73,o3 75 (.load 1 .false (.t 74)) 74,o3 76 (.mv (.t 7)) 75,o3 77 (.iaddr 5 (.t 75) (.t 76)) 76,o3 78 (.faddr 0 (.t 77)) 77,o3 79 (.load 1 .false (.t 78)) 78,o3 80 (.call 12 [.t 73, .t 79]) 79,o3 81 (.mv (.t 7)) 80, .mk (.some 82) (.bin .neq (.t 80) (.t 81)) .none 81 (.some [79]) .true
 [] .false]) (.cond (.t 82) (.seq (.reg 82 1 [o1 2 (.mv (.k (.int .i64 6))) 82]) .ret) .skip))) (.reg 83 3 [o1 71 (.mv (.t 7)) 83,o1 72 (.bin .add (.t 71) (.k (.int .i64 1))) 84,o1 7 (.mv (.t 72)) 85])))))) (.seq (.seq (.reg 86 1 [o1 8 (.mv (.k (.int .i64 0))) 86]) (.block 8 (.loop (.seq (.seq (.reg 87 3 [o1 83 (.mv (.t 8)) 87,o1 84 (.mv (.t 3)) 88,o1 85 (.bin .lss (.t 83) (.t 84)) 89]) (.cond
 (.t 85) .skip (.exit 8))) (.seq (.block 9 (.seq (.draw 90 18 [1] [] [o3 88 (.faddr 1 (.t 1)) 90,o3 89 (.load 1 .false (.t 88)) 91,o3 90 (.mv (.t 8)) 92,o3 91 (.iaddr 5 (.t 89) (.t 90)) 93,o3 92 (.faddr 1 (.t 91)) 94,o3 93 (.load 1 .false (.t 92)) 95,o3 94 (.bin .neq (.t 93) (.k (.int .i64 0))) 96,o3 95 (.mv (.t 94)) 97, .mk (.some 96) (.load 2 .true (.t 1))
 (.some (95, .true)) 98 (.some []) .true [] .false, .mk (.some 97) (.faddr 1 (.t 1)) (.some (95, .true)) 99 (.some []) .true [] .false, .mk (.some 98) (.load 1 .false (.t 97))
 (.some (95, .true)) 100 (.some []) .true [] .false, .mk (.some 99) (.mv (.t 8)) (.some (95, .true)) 101 (.some []) .true [] .false, .mk (.some 100) (.iaddr 5 (.t 98) (.t 99))
 (.some (95, .true)) 102 (.some []) .true [] .false, .mk (.some 101) (.faddr 1 (.t 100)) (.some (95, .true)) 103 (.some []) .true [] .false, .mk (.some 102) (.load 1 .false (.t
 101)) (.some (95, .true)) 104 (.some []) .true [] .false, .mk (.some 103) (.call 12 [.t 96, .t 102]) (.some (95, .true)) 105 (.some []) .true [] .false, .mk (.some 104) (.bin .lss
 (.t 103) (.k (.int .i64 0))) (.some (95, .true)) 106 (.some [105]) .true [] .false, .mk (.some 105) (.pick (.t 95) (.t 104) (.k (.bool .false))) .none 107 (.some [105]) .true []
 .false]) (.cond (.t 105) (.seq (.reg 108 1 [o1 2 (.mv (.k (.int .i64 7))) 108]) .ret) .skip))) (.reg 109 3 [o1 86 (.mv (.t 8)) 109,o1 87 (.bin .add (.t 86) (.k (.int .i64 1))) 110,o1 8 (.mv (.t 87)) 111])))))) (.seq (.seq (.reg 112 1 [o1 9 (.mv (.k (.int .i64 0))) 112]) (.block 10 (.loop (.seq (.seq (.reg 113 3 [o1 106 (.mv (.t 9)) 113,o1 107 (.mv (.t 3)) 114,o1 108 (.bin .lss (.t 106) (.t 107)) 115]) (.cond (.t 108) .skip (.exit 10))) (.seq (.block 11 (.seq (.reg 116 7 [o1 111 (.faddr 1 (.t 1)) 116,o1 112 (.load 1 .false (.t 111)) 117,o1 113 (.mv (.t 9)) 118,o1 114 (.iaddr 5 (.t 112) (.t 113)) 119,o1 115 (.faddr 1 (.t 114)) 120,o1 116 (.load 1 .false (.t 115)) 121,o1 10 (.mv (.t 116)) 122]) (.seq (.seq (.reg 123 1 [o1 11 (.mv (.k (.int .i64 0))) 123]) (.block 12 (.loop (.seq (.seq (.reg
 124 7 [o1 117 (.mv (.t 11)) 124,o1 118 (.mv (.t 3)) 125,o1 119 (.bin .lss (.t 117) (.t 118)) 126,o1 120 (.mv (.t 119)) 127, .mk (.some 121) (.mv (.t 10)) (.some (120, .true)) 128 .none .false [] .false,
 .mk (.some 122) (.bin .neq (.t 121) (.k (.int .i64 0))) (.some (120, .true)) 129 .none .false [] .false,o1 123 (.pick (.t 120) (.t 122) (.k (.bool .false))) 130]) (.cond (.t 123) .skip (.exit 12))) (.seq (.block 13 (.draw 131 9 [1] [] [o3 126 (.faddr 1 (.t 1)) 131,o3 127 (.load 1 .false (.t 126)) 132,o3 128 (.load 2 .true (.t 1)) 133,o3 129 (.mv (.t 10)) 134,o3 130 (.call 12 [.t 128, .t 129]) 135, .mk (.some 131) (.iaddr 5 (.t 127) (.t 130)) .none 136
 (.some [135]) .true [] .false, .mk (.some 132) (.faddr 1 (.t 131)) .none 137 (.some [135]) .true [] .false, .mk (.some 133) (.load 1 .false (.t 132)) .none 138 (.some [135])
 .false [] .false, .mk (.some 10) (.mv (.t 133)) .none 139 (.some [135]) .true [] .false])) (.reg 140 3 [o1 124 (.mv (.t 11)) 140,o1 125 (.bin .add (.t 124) (.k (.int .i64 1))) 141,o1 11 (.mv (.t 125)) 142])))))) (.seq (.reg 143 2 [o1 134 (.mv (.t 10)) 143,o1 135 (.bin .neq (.t 134) (.k (.int .i64 0))) 144]) (.cond (.t 135) (.seq (.reg 145 1
 [o1 2 (.mv (.k (.int .i64 8))) 145]) .ret) .skip))))) (.reg 146 3 [o1 109 (.mv (.t 9)) 146,o1 110 (.bin .add (.t 109) (.k (.int .i64 1))) 147,o1 9 (.mv (.t 110)) 148])))))) (.seq (.seq (.reg 149 1 [o1 12 (.mv (.k (.int .i64 0))) 149]) (.block 14 (.loop (.seq (.seq (.reg 150 3 [o1 136 (.mv (.t 12)) 150,
 o1 137 (.mv (.t 3)) 151,o1 138 (.bin .lss (.t 136) (.t 137)) 152]) (.cond (.t 138) .skip (.exit 14)))
 (.seq (.block 15 (.seq (.reg 153 7 [o1 141 (.faddr 1 (.t 1)) 153,o1 142 (.load 1 .false (.t 141)) 154,
 o1 143 (.mv (.t 12)) 155,o1 144 (.iaddr 5 (.t 142) (.t 143)) 156,o1 145 (.load 5 .true (.t 144)) 157,o1 13 (.alloc 42 [.int .i64 0, .int .i64 0, .int .i64 0, .int .i64 0, .slice .none 0 0]) 158,o2 (.store 5 (.t 13) (.t 145)) 159]) (.seq (.draw 160 17 [13,1] [] [o3 146 (.faddr 3 (.t 13)) 160,o3 147 (.load 1 .false (.t 146)) 161,o3 148 (.load 2 .true (.t 1)) 162,o3 149 (.faddr 1 (.t 13)) 163,o3 150 (.load 1 .false (.t 149)) 164,o3 151 (.call 32 [.t 148, .t 150]) 165, .mk (.some 152) (.len (.t 151)) .none 166 (.some [165]) .true [] .false, .mk (.some 153) (.call 31 [.t 147, .k (.int .i64 0), .t 152]) .none 167
 (.some [165]) .false [] .false, .mk (.some 154) (.un .not (.t 153)) .none 168 (.some [165,167]) .true [] .false, .mk (.some 155) (.mv (.t 154)) .none 169 (.some [167,165]) .true
 [] .false, .mk (.some 156) (.faddr 2 (.t 13)) (.some (155, .false)) 170 (.some [165,167]) .true [] .false, .mk (.some 157) (.load 1 .false (.t 156)) (.some (155, .false)) 171
 (.some [167,165]) .false [] .false, .mk (.some 158) (.faddr 3 (.t 13)) (.some (155, .false)) 172 (.some [165,167]) .true [] .false, .mk (.some 159) (.load 1 .false (.t 158))
 (.some (155, .false)) 173 (.some [167,165]) .false [] .false, .mk (.some 160) (.call 31 [.t 157, .k (.int .i64 0), .t 159]) (.some (155, .false)) 174 (.some [165,167]) .false []
 .false, .mk (.some 161) (.un .not (.t 160)) (.some (155, .false)) 175 (.some [167,165,174]) .true [] .false, .mk (.some 162) (.pick (.t 155) (.k (.bool .true)) (.t 161)) .none
 176 (.some [174,165,167]) .true [] .false]) (.cond (.t 162) (.seq (.reg 177 1 [o1 2 (.mv (.k (.int .i64 1))) 177]) .ret) .skip)))) (.reg
 178 3 [o1 139 (.mv (.t 12)) 178,o1 140 (.bin .add (.t 139) (.k (.int .i64 1))) 179,o1 12 (.mv (.t 140)) 180])))))) (.seq (.reg 181 1 [o1 2 (.mv (.k (.int .i64 0))) 181]) .ret)))))))))))
def rs6:List IRes:=[.tmp 2]
set_option maxRecDepth 100000 in
theorem comp6:Comp Tryz.prog 6 ir6 rs6 163:=⟨⟨_,_,182,Tryz.func6,rfl,by kernel_rfl,by kernel_rfl,rfl⟩⟩
theorem body6:HasBody Tryz.prog 6:=hasBody_of (by kernel_rfl)

def ir8:IC :=
 .seq (.reg 0 2 [o1 2 (.box 25 (.t 0)) 0,o1 4 (.mv (.k (.slice .none 0 0))) 1]) (.seq (.reg 2 3 [o1 13 (.load 2 .true (.t 2)) 2,o1 14 (.call 34 [.t 13]) 3,o1 5 (.mv (.t 14)) 4]) (.seq (.reg 5 1 [o1 6 (.mv (.k (.slice .none 0 0))) 5]) (.seq (.seq (.reg 6 1 [o1 7 (.mv (.k (.int .i64 0))) 6]) (.block 0 (.loop (.seq (.seq (.reg 7 4 [o1 15 (.mv (.t 7)) 7,o1 16 (.mv (.t 5)) 8,o1 17 (.len (.t 16)) 9,o1 18 (.bin .lss (.t 15) (.t 17)) 10]) (.cond (.t 18) .skip
 (.exit 0))) (.seq (.block 1 (.seq (.reg 11 1 [o1 8 (.mv (.k (.int .i64 0))) 11]) (.block 2 (.loop (.seq (.seq (.reg 12 4 [o1 21 (.mv (.t 8)) 12,o1 22 (.mv (.t 5)) 13,o1 23 (.len (.t 22)) 14,o1 24 (.bin .lss (.t 21) (.t 23)) 15]) (.cond (.t 24) .skip (.exit 2))) (.seq (.block 3 (.seq (.seq (.reg 16 14 [o1 27 (.mv (.t 1)) 16,o1 28 (.mv (.t 8)) 17,o1 29 (.conv .u64 (.t 28)) 18,o1 30 (.pur (.bin .shr 26) [.t 27, .t 29]) 19,o1 31 (.bin .rem (.t 30) (.k (.int .u16 2))) 20,o1 32 (.bin .eql (.t 31) (.k (.int .u16 0))) 21,o1 33 (.mv (.t 32)) 22, .mk (.some 34) (.mv (.t 6)) (.some (33, .false)) 23 .none .false []
 .false, .mk (.some 35) (.mv (.t 5)) (.some (33, .false)) 24 .none .false [] .false, .mk (.some 36) (.mv (.t 8)) (.some (33, .false)) 25 .none .false [] .false, .mk (.some 37)
 (.iaddr 1 (.t 35) (.t 36)) (.some (33, .false)) 26 .none .false [] .false, .mk (.some 38) (.load 1 .false (.t 37)) (.some (33, .false)) 27 .none .false [] .false, .mk (.some 39)
 (.call 13 [.t 34, .t 38]) (.some (33, .false)) 28 .none .false [] .false,o1 40 (.pick (.t 33) (.k (.bool .true)) (.t 39)) 29]) (.cond (.t
 40) (.exit 3) .skip)) (.seq (.draw 30 12 [2] [] [o3 41 (.faddr 1 (.t 2)) 30,o3 42 (.load 1 .false (.t 41)) 31,o3 43 (.load 2 .true (.t 2)) 32,o3 44 (.mv (.t 5)) 33,o3 45 (.mv (.t 8)) 34,o3 46 (.iaddr 1 (.t 44) (.t 45)) 35,o3 47 (.load 1 .false (.t 46)) 36,o3 48 (.call 12 [.t 43, .t 47]) 37, .mk (.some 49) (.iaddr 5 (.t 42) (.t 48)) .none 38 (.some [37]) .true [] .false,
 .mk (.some 50) (.load 5 .true (.t 49)) .none 39 (.some [37]) .false [] .false,o3 9 (.alloc 42 [.int .i64 0, .int .i64 0, .int .i64 0, .int .i64 0, .slice .none 0 0]) 40, .mk .none (.store 5 (.t 9) (.t 50)) .none 41 (.some [37,40]) .true [] .false]) (.seq (.reg 42 10 [o1 51 (.faddr 1 (.t 9)) 42,o1 52 (.load 1 .false (.t 51)) 43,o1 53 (.bin .eql (.t 52) (.k (.int .i64 0))) 44,o1 54 (.mv (.t 53)) 45, .mk (.some 55) (.mv (.t 6)) (.some (54, .false)) 46 .none .false [] .false, .mk (.some 56) (.faddr 1 (.t 9))
 (.some (54, .false)) 47 .none .false [] .false, .mk (.some 57) (.load 1 .false (.t 56)) (.some (54, .false)) 48 .none .false [] .false, .mk (.some 58) (.call 13 [.t 55, .t 57])
 (.some (54, .false)) 49 .none .false [] .false,o1 59 (.pick (.t 54) (.k (.bool .true)) (.t 58)) 50,o1 10 (.mv (.t 59)) 51]) (.seq (.seq (.reg 52 1 [o1 11 (.mv (.k (.int .i64 0))) 52]) (.block 4 (.loop (.seq (.seq (.reg 53 4 [o1 60 (.mv (.t 11)) 53,o1 61 (.mv (.t 6)) 54,o1 62 (.len (.t 61)) 55,o1 63 (.bin .lss (.t 60) (.t 62)) 56]) (.cond (.t 63) .skip (.exit 4))) (.seq (.block 5 (.draw 57 17 [9,2] [] [o3 66 (.mv (.t 10)) 57,o3 67 (.mv (.t 66)) 58, .mk (.some 68) (.load 5 .true (.t 9)) (.some (67, .true)) 59 (.some [])
 .true [] .false, .mk (.some 69) (.faddr 1 (.t 2)) (.some (67, .true)) 60 (.some []) .true [] .false, .mk (.some 70) (.load 1 .false (.t 69)) (.some (67, .true)) 61 (.some [])
 .true [] .false, .mk (.some 71) (.load 2 .true (.t 2)) (.some (67, .true)) 62 (.some []) .true [] .false, .mk (.some 72) (.mv (.t 6)) (.some (67, .true)) 63 (.some []) .true []
 .false, .mk (.some 73) (.mv (.t 11)) (.some (67, .true)) 64 (.some []) .true [] .false, .mk (.some 74) (.iaddr 1 (.t 72) (.t 73)) (.some (67, .true)) 65 (.some []) .true []
 .false, .mk (.some 75) (.load 1 .false (.t 74)) (.some (67, .true)) 66 (.some []) .true [] .false, .mk (.some 76) (.call 12 [.t 71, .t 75]) (.some (67, .true)) 67 (.some []) .true
 [] .false, .mk (.some 77) (.iaddr 5 (.t 70) (.t 76)) (.some (67, .true)) 68 (.some [67]) .true [] .false, .mk (.some 78) (.load 5 .true (.t 77)) (.some (67, .true)) 69 (.some
 [67]) .false [] .false, .mk (.some 79) (.call 35 [.t 68, .t 78]) (.some (67, .true)) 70 (.some [67]) .false [] .false, .mk (.some 80) (.un .not (.t 79)) (.some (67, .true)) 71
 (.some [67,70]) .true [] .false, .mk (.some 81) (.pick (.t 67) (.t 80) (.k (.bool .false))) .none 72 (.some [70,67]) .true [] .false, .mk (.some 10) (.mv (.t 81)) .none 73
 (.some [67,70]) .true [] .false])) (.reg 74 3 [o1 64 (.mv (.t 11)) 74,o1 65 (.bin .add (.t 64) (.k (.int .i64 1))) 75,o1 11 (.mv (.t 65)) 76])))))) (.seq (.seq (.reg 77 2 [o1 82 (.mv (.t 10)) 77,o1 83 (.un .not (.t 82)) 78]) (.cond (.t 83) (.exit 3) .skip)) (.seq (.reg 79 8 [o1 84 (.mv (.t 6)) 79,o1 85 (.mv (.t 5)) 80,o1 86 (.mv (.t 8)) 81,o1 87 (.iaddr 1 (.t 85) (.t 86)) 82,o1 88 (.load 1 .false (.t 87)) 83,o1 89 (.bsl 3 1 1 [.int .i64 0] [(0, .t 88)]) 84,
 o1 90 (.app 3 1 8 (.t 84) (.t 89)) 85,o1 6 (.mv (.t 90)) 86]) (.seq (.reg 87 4 [o1 91 (.mv (.t 6)) 87,o1 92 (.len (.t 91)) 88,o1 93 (.bin .sub (.t 92) (.k (.int .i64 1))) 89,o1 12 (.mv (.t 93)) 90]) (.block 6 (.loop (.seq (.seq (.draw 91 14 [] [] [o3 94 (.mv (.t 12)) 91,o3 95 (.bin .gtr (.t 94) (.k (.int .i64 0))) 92,o3 96 (.mv (.t 95)) 93, .mk (.some
 97) (.mv (.t 6)) (.some (96, .true)) 94 (.some []) .true [] .false, .mk (.some 98) (.mv (.t 12)) (.some (96, .true)) 95 (.some []) .true [] .false, .mk (.some 99) (.iaddr 1 (.t
 97) (.t 98)) (.some (96, .true)) 96 (.some []) .true [] .false, .mk (.some 100) (.load 1 .false (.t 99)) (.some (96, .true)) 97 (.some []) .true [] .false, .mk (.some 101) (.mv
 (.t 6)) (.some (96, .true)) 98 (.some []) .true [] .false, .mk (.some 102) (.mv (.t 12)) (.some (96, .true)) 99 (.some []) .true [] .false, .mk (.some 103) (.bin .sub (.t 102) (.k
 (.int .i64 1))) (.some (96, .true)) 100 (.some []) .true [] .false, .mk (.some 104) (.iaddr 1 (.t 101) (.t 103)) (.some (96, .true)) 101 (.some []) .true [] .false, .mk (.some
 105) (.load 1 .false (.t 104)) (.some (96, .true)) 102 (.some []) .true [] .false, .mk (.some 106) (.bin .lss (.t 100) (.t 105)) (.some (96, .true)) 103 (.some []) .true []
 .false,o3 107 (.pick (.t 96) (.t 106) (.k (.bool .false))) 104]) (.cond (.t 107) .skip (.exit 6))) (.seq (.block 7 (.draw 105 18 [] []
 [o3 110 (.mv (.t 6)) 105,o3 111 (.mv (.t 12)) 106,o3 112 (.mv (.t 6)) 107,o3 113 (.mv (.t 12)) 108,o3 114 (.bin .sub (.t 113) (.k (.int .i64 1))) 109,o3 115 (.mv (.t 6)) 110,o3 116 (.mv (.t 12)) 111,o3 117 (.bin .sub (.t 116) (.k (.int .i64 1))) 112,o3 118 (.iaddr 1 (.t 115) (.t 117)) 113,o3 119 (.load 1 .false (.t 118)) 114,o3 120 (.mv (.t 6)) 115,o3 121 (.mv (.t 12)) 116,o3 122 (.iaddr 1 (.t 120) (.t 121)) 117,o3 123 (.load 1 .false (.t 122)) 118,o3 124 (.iaddr 1 (.t 110) (.t 111)) 119,o4 (.store 1 (.t 124) (.t 119)) 120,o3 125 (.iaddr 1 (.t 112) (.t 114)) 121,o4 (.store 1 (.t 125) (.t 123)) 122])) (.reg 123 3 [o1 108 (.mv (.t 12)) 123,o1 109 (.bin .sub (.t 108) (.k (.int .i64 1))) 124,o1 12 (.mv (.t 109)) 125]))))))))))))) (.reg 126 3 [o1 25 (.mv (.t 8)) 126,o1 26 (.bin .add (.t 25) (.k (.int .i64 1))) 127,o1 8 (.mv (.t 26)) 128]))))))) (.reg 129 3 [o1 19 (.mv (.t 7)) 129,o1 20 (.bin .add (.t 19) (.k (.int .i64 1))) 130,o1 7 (.mv (.t 20)) 131])))))) (.seq (.reg 132 2 [o1 126 (.mv (.t 6)) 132,o1 4 (.mv (.t 126)) 133]) .ret))))
def rs8:List IRes:=[.tmp 4]
set_option maxRecDepth 100000 in
theorem comp8:Comp Tryz.prog 8 ir8 rs8 127:=⟨⟨_,_,134,Tryz.func8,rfl,by kernel_rfl,by kernel_rfl,rfl⟩⟩
theorem body8:HasBody Tryz.prog 8:=hasBody_of (by kernel_rfl)

def ir11:IC :=
 .seq (.reg 0 1 [.mk (.some 2) (.mv (.k (.string (ByteArray.mk (Array.mk []))))) .none 0 .none .false [] .false]) (.seq (.reg 1 1 [.mk (.some 3) (.mv (.k (.string (ByteArray.mk
 (Array.mk []))))) .none 1 .none .false [] .false]) (.seq (.seq (.reg 2 1 [o1 4 (.mv (.k (.int .i64 0))) 2]) (.block 0 (.loop (.seq (.seq
 (.reg 3 4 [o1 5 (.mv (.t 4)) 3,o1 6 (.mv (.t 0)) 4,o1 7 (.len (.t 6)) 5,o1 8 (.bin .lss (.t 5) (.t 7)) 6]) (.cond (.t 8) .skip (.exit 0))) (.seq (.block 1 (.seq (.seq (.reg 7 2 [o1 11 (.mv (.t 4)) 7,o1 12 (.bin .gtr (.t 11) (.k (.int .i64 0))) 8]) (.cond (.t 12) (.reg 9 3 [o1 13 (.mv (.t 3)) 9, .mk (.some 14) (.pur (.bin .add 9) [.t 13, .k (.string (ByteArray.mk (Array.mk [32])))]) .none 10 .none .false [] .false,o1 3 (.mv (.t 14)) 11]) .skip)) (.reg 12 7 [o1 15 (.mv (.t 3)) 12,o1 16 (.mv (.t 0)) 13,o1 17 (.mv (.t 4)) 14,o1 18 (.iaddr 1 (.t 16) (.t 17)) 15,o1 19 (.load 1 .false (.t 18)) 16,o1 20 (.pur (.bin .add 9) [.t 15, .t 19]) 17,o1 3 (.mv (.t 20)) 18]))) (.reg 19 3 [o1 9 (.mv (.t 4)) 19,o1 10 (.bin .add (.t 9) (.k (.int .i64 1))) 20,o1 4 (.mv (.t 10)) 21])))))) (.seq (.reg 22 2 [o1 21 (.mv (.t 3)) 22,o1 2 (.mv (.t 21)) 23]) .ret)))
def rs11:List IRes:=[.tmp 2]
set_option maxRecDepth 100000 in
theorem comp11:Comp Tryz.prog 11 ir11 rs11 22:=⟨⟨_,_,24,Tryz.func11,rfl,by kernel_rfl,by kernel_rfl,rfl⟩⟩
theorem body11:HasBody Tryz.prog 11:=hasBody_of (by kernel_rfl)

def ir12:IC :=
 .seq (.reg 0 2 [o1 2 (.box 25 (.t 0)) 0,o1 4 (.mv (.k (.int .i64 0))) 1]) (.seq (.seq (.reg 2 1 [o1 5 (.mv (.k (.int .i64 0))) 2]) (.block 0 (.loop (.seq (.seq (.reg 3 5 [o1 6 (.mv (.t 5)) 3,o1 7 (.faddr 1 (.t 2)) 4,o1 8 (.load 1 .false (.t 7)) 5,o1 9 (.len (.t 8)) 6,o1 10 (.bin .lss (.t 6) (.t 9)) 7]) (.cond (.t 10) .skip (.exit 0))) (.seq (.block 1 (.seq (.reg 8 8 [o1 13 (.faddr 1 (.t 2)) 8,o1 14 (.load 1 .false (.t 13)) 9,o1 15 (.mv (.t 5)) 10,o1 16 (.iaddr 5 (.t 14) (.t 15)) 11,o1 17 (.faddr 0 (.t 16)) 12,o1 18 (.load 1 .false (.t 17)) 13,o1 19 (.mv (.t 1)) 14,o1 20 (.bin .eql (.t 18) (.t 19)) 15]) (.cond (.t 20)
 (.seq (.reg 16 2 [o1 21 (.mv (.t 5)) 16,o1 4 (.mv (.t 21)) 17]) .ret) .skip))) (.reg 18 3 [o1 11 (.mv (.t 5)) 18,o1 12 (.bin .add (.t 11) (.k (.int .i64 1))) 19,o1 5 (.mv (.t 12)) 20])))))) (.seq (.reg 21 1 [o1 4 (.mv (.k (.int .i64 (-1)))) 21]) .ret))
def rs12:List IRes:=[.tmp 4]
set_option maxRecDepth 100000 in
theorem comp12:Comp Tryz.prog 12 ir12 rs12 22:=⟨⟨_,_,22,Tryz.func12,rfl,by kernel_rfl,by kernel_rfl,rfl⟩⟩
theorem body12:HasBody Tryz.prog 12:=hasBody_of (by kernel_rfl)

def ir13:IC :=
 .seq (.reg 0 1 [o1 4 (.mv (.k (.bool .false))) 0]) (.seq (.seq (.reg 1 1 [o1 5 (.mv (.k (.int .i64 0))) 1]) (.block 0 (.loop (.seq (.seq (.reg 2 4 [o1 6 (.mv (.t 5)) 2,o1 7 (.mv (.t 0)) 3,o1 8 (.len (.t 7)) 4,o1 9 (.bin .lss (.t 6) (.t 8)) 5]) (.cond (.t 9) .skip (.exit 0))) (.seq (.block 1 (.seq
 (.reg 6 6 [o1 12 (.mv (.t 0)) 6,o1 13 (.mv (.t 5)) 7,o1 14 (.iaddr 1 (.t 12) (.t 13)) 8,o1 15 (.load 1 .false (.t 14)) 9,o1 16 (.mv (.t 1)) 10,o1 17 (.bin .eql (.t 15) (.t 16)) 11]) (.cond (.t 17) (.seq (.reg 12 1 [o1 4 (.mv (.k (.bool .true))) 12]) .ret) .skip)))
 (.reg 13 3 [o1 10 (.mv (.t 5)) 13,o1 11 (.bin .add (.t 10) (.k (.int .i64 1))) 14,o1 5 (.mv (.t 11)) 15])))))) (.seq (.reg 16 1 [o1 4 (.mv (.k (.bool .false))) 16]) .ret))
def rs13:List IRes:=[.tmp 4]
set_option maxRecDepth 100000 in
theorem comp13:Comp Tryz.prog 13 ir13 rs13 18:=⟨⟨_,_,17,Tryz.func13,rfl,by kernel_rfl,by kernel_rfl,rfl⟩⟩
theorem body13:HasBody Tryz.prog 13:=hasBody_of (by kernel_rfl)

def ir29:IC :=
 .seq (.reg 0 1 [o1 2 (.mv (.k (.bool .false))) 0]) (.seq (.seq (.reg 1 1 [o1 3 (.mv (.k (.int .i64 0))) 1]) (.block 0 (.loop (.seq (.seq (.reg 2 4 [o1 4 (.mv (.t 3)) 2,o1 5 (.mv (.t 0)) 3,o1 6 (.len (.t 5)) 4,o1 7 (.bin .lss (.t 4) (.t 6)) 5]) (.cond (.t 7) .skip (.exit 0))) (.seq (.block 1 (.seq
 (.reg 6 6 [o1 10 (.mv (.t 0)) 6,o1 11 (.mv (.t 3)) 7,o1 12 (.iaddr 1 (.t 10) (.t 11)) 8,o1 13 (.load 1 .false (.t 12)) 9,o1 14 (.lenS (.t 13)) 10,o1 15 (.bin .gtr (.t 14) (.k (.int .i64 25))) 11]) (.cond (.t 15) (.seq (.reg 12 1 [o1 2 (.mv (.k (.bool .false))) 12]) .ret) .skip))) (.reg 13 3 [o1 8 (.mv (.t 3)) 13,o1 9 (.bin .add (.t 8) (.k (.int .i64 1))) 14,o1 3 (.mv (.t 9)) 15])))))) (.seq (.reg 16 4 [o1 16 (.mv (.t 0)) 16,o1 17 (.len (.t 16)) 17,o1 18 (.bin .leq (.t 17) (.k (.int .i64 65))) 18,o1 2 (.mv (.t 18)) 19]) .ret))
def rs29:List IRes:=[.tmp 2]
set_option maxRecDepth 100000 in
theorem comp29:Comp Tryz.prog 29 ir29 rs29 19:=⟨⟨_,_,20,Tryz.func29,rfl,by kernel_rfl,by kernel_rfl,rfl⟩⟩
theorem body29:HasBody Tryz.prog 29:=hasBody_of (by kernel_rfl)

def ir30:IC :=
 .seq (.reg 0 1 [o1 2 (.mv (.k (.bool .false))) 0]) (.seq (.seq (.reg 1 1 [o1 3 (.mv (.k (.int .i64 0))) 1]) (.block 0 (.loop (.seq (.seq (.reg 2 4 [o1 5 (.mv (.t 3)) 2,o1 6 (.mv (.t 0)) 3,o1 7 (.len (.t 6)) 4,o1 8 (.bin .lss (.t 5) (.t 7)) 5]) (.cond (.t 8) .skip (.exit 0))) (.seq (.block 1 (.seq
 (.seq (.reg 6 14 [o1 11 (.mv (.t 0)) 6,o1 12 (.mv (.t 3)) 7,o1 13 (.iaddr 1 (.t 11) (.t 12)) 8,o1 14 (.load 1 .false (.t 13)) 9,o1 15 (.lenS (.t 14)) 10,o1 16 (.bin .lss (.t 15) (.k (.int .i64 1))) 11,o1 17 (.mv (.t 16)) 12, .mk (.some 18) (.mv (.t 0)) (.some (17,
 .false)) 13 .none .false [] .false, .mk (.some 19) (.mv (.t 3)) (.some (17, .false)) 14 .none .false [] .false, .mk (.some 20) (.iaddr 1 (.t 18) (.t 19)) (.some (17, .false)) 15
 .none .false [] .false, .mk (.some 21) (.load 1 .false (.t 20)) (.some (17, .false)) 16 .none .false [] .false, .mk (.some 22) (.lenS (.t 21)) (.some (17, .false)) 17 .none .false
 [] .false, .mk (.some 23) (.bin .gtr (.t 22) (.k (.int .i64 20))) (.some (17, .false)) 18 .none .false [] .false,o1 24 (.pick (.t 17) (.k (.bool .true)) (.t 23)) 19]) (.cond (.t 24) (.seq (.reg 20 1 [o1 2 (.mv (.k (.bool .false))) 20]) .ret) .skip)) (.seq (.reg 21 1 [o1 4 (.mv (.k (.int .i64 0))) 21]) (.block 2 (.loop (.seq (.seq (.reg 22 7 [o1 25 (.mv (.t 4)) 22,o1 26 (.mv (.t 0)) 23,o1 27 (.mv (.t 3)) 24,o1 28 (.iaddr 1 (.t 26) (.t 27)) 25,o1 29 (.load 1 .false (.t 28)) 26,o1 30 (.lenS (.t 29)) 27,o1 31 (.bin .lss (.t 25) (.t 30)) 28]) (.cond (.t 31) .skip (.exit 2))) (.seq (.block 3 (.seq (.reg 29 16 [o1 34 (.mv (.t 0)) 29,o1 35 (.mv (.t 3)) 30,o1 36 (.iaddr 1 (.t 34) (.t 35)) 31,o1 37 (.load 1 .false (.t 36)) 32,o1 38 (.mv (.t 4)) 33,o1 39 (.pur (.idx 9) [.t 37, .t 38]) 34,o1 40 (.bin .lss (.t 39) (.k (.int .u8 33))) 35,o1 41 (.mv (.t 40)) 36, .mk (.some 42) (.mv (.t 0)) (.some (41,
 .false)) 37 .none .false [] .false, .mk (.some 43) (.mv (.t 3)) (.some (41, .false)) 38 .none .false [] .false, .mk (.some 44) (.iaddr 1 (.t 42) (.t 43)) (.some (41, .false)) 39
 .none .false [] .false, .mk (.some 45) (.load 1 .false (.t 44)) (.some (41, .false)) 40 .none .false [] .false, .mk (.some 46) (.mv (.t 4)) (.some (41, .false)) 41 .none .false []
 .false, .mk (.some 47) (.pur (.idx 9) [.t 45, .t 46]) (.some (41, .false)) 42 .none .false [] .false, .mk (.some 48) (.bin .gtr (.t 47) (.k (.int .u8 126))) (.some (41, .false))
 43 .none .false [] .false,o1 49 (.pick (.t 41) (.k (.bool .true)) (.t 48)) 44]) (.cond (.t 49) (.seq (.reg 45 1 [o1 2 (.mv (.k (.bool .false))) 45]) .ret) .skip))) (.reg 46 3 [o1 32 (.mv (.t 4)) 46,o1 33 (.bin .add (.t 32) (.k (.int .i64 1))) 47,o1 4 (.mv (.t 33)) 48])))))))) (.reg 49 3 [o1 9 (.mv (.t 3)) 49,o1 10 (.bin .add (.t 9) (.k (.int .i64 1))) 50,o1 3 (.mv (.t 10)) 51])))))) (.seq (.reg 52
 1 [o1 2 (.mv (.k (.bool .true))) 52]) .ret))
def rs30:List IRes:=[.tmp 2]
set_option maxRecDepth 100000 in
theorem comp30:Comp Tryz.prog 30 ir30 rs30 50:=⟨⟨_,_,53,Tryz.func30,rfl,by kernel_rfl,by kernel_rfl,rfl⟩⟩
theorem body30:HasBody Tryz.prog 30:=hasBody_of (by kernel_rfl)

def ir31:IC :=
 .seq (.reg 0 1 [o1 6 (.mv (.k (.bool .false))) 0]) (.seq (.reg 1 9 [o1 7 (.mv (.t 0)) 1,o1 8 (.mv (.t 1)) 2,o1 9 (.bin .geq (.t 7) (.t 8)) 3,o1 10 (.mv (.t 9)) 4,
 .mk (.some 11) (.mv (.t 0)) (.some (10, .true)) 5 .none .false [] .false, .mk (.some 12) (.mv (.t 2)) (.some (10, .true)) 6 .none .false [] .false, .mk (.some 13) (.bin .leq (.t
 11) (.t 12)) (.some (10, .true)) 7 .none .false [] .false,o1 14 (.pick (.t 10) (.t 13) (.k (.bool .false))) 8,o1 6 (.mv (.t 14)) 9]) .ret)
def rs31:List IRes:=[.tmp 6]
set_option maxRecDepth 100000 in
theorem comp31:Comp Tryz.prog 31 ir31 rs31 15:=⟨⟨_,_,10,Tryz.func31,rfl,by kernel_rfl,by kernel_rfl,rfl⟩⟩
theorem body31:HasBody Tryz.prog 31:=hasBody_of (by kernel_rfl)

def ir32:IC :=
 .seq (.reg 0 2 [o1 2 (.box 25 (.t 0)) 0,o1 4 (.mv (.k (.slice .none 0 0))) 1]) (.seq (.seq (.reg 2 2
 [o1 5 (.mv (.t 1)) 2,o1 6 (.bin .eql (.t 5) (.k (.int .i64 0))) 3]) (.cond (.t 6) (.seq (.reg 4 3 [o1 7 (.faddr 0 (.t 2)) 4,o1 8 (.load 1 .false (.t 7)) 5,o1 4 (.mv (.t 8)) 6]) .ret) .skip)) (.seq (.draw 7 9 [1,2] [] [o3 9 (.faddr 1 (.t 2)) 7,o3 10 (.load 1 .false (.t 9)) 8,o3 11 (.load 2 .true (.t 2)) 9,o3 12 (.mv (.t 1)) 10,o3 13 (.call 12 [.t 11, .t 12]) 11, .mk (.some 14) (.iaddr 5 (.t 10) (.t 13)) .none 12 (.some [11]) .true [] .false, .mk (.some 15) (.faddr 4 (.t 14)) .none 13
 (.some [11]) .true [] .false, .mk (.some 16) (.load 1 .false (.t 15)) .none 14 (.some [11]) .false [] .false, .mk (.some 4) (.mv (.t 16)) .none 15 (.some [11]) .true [] .false])
 .ret))
def rs32:List IRes:=[.tmp 4]
set_option maxRecDepth 100000 in
theorem comp32:Comp Tryz.prog 32 ir32 rs32 17:=⟨⟨_,_,16,Tryz.func32,rfl,by kernel_rfl,by kernel_rfl,rfl⟩⟩
theorem body32:HasBody Tryz.prog 32:=hasBody_of (by kernel_rfl)

def ir34:IC :=
 .seq (.reg 0 2 [o1 1 (.box 25 (.t 0)) 0,o1 2 (.mv (.k (.slice .none 0 0))) 1]) (.seq (.reg 2 1 [o1 3 (.mv (.k (.slice .none 0 0))) 2]) (.seq (.seq (.reg 3 1 [o1 4 (.mv (.k (.int .i64 0))) 3]) (.block 0
 (.loop (.seq (.seq (.reg 4 5 [o1 6 (.mv (.t 4)) 4,o1 7 (.faddr 1 (.t 1)) 5,o1 8 (.load 1 .false (.t 7)) 6,o1 9 (.len (.t 8)) 7,o1 10 (.bin .lss (.t 6) (.t 9)) 8]) (.cond (.t 10) .skip (.exit 0))) (.seq (.block 1 (.seq (.reg 9 10 [o1 13 (.mv (.t 3)) 9,o1 14 (.faddr 1 (.t 1)) 10,o1 15 (.load 1 .false (.t 14)) 11,o1 16 (.mv (.t 4)) 12,o1 17 (.iaddr 5 (.t 15) (.t 16)) 13,o1 18 (.faddr 0 (.t 17)) 14,o1 19 (.load 1 .false (.t 18)) 15,o1 20 (.bsl 3 1 1 [.int .i64 0] [(0, .t 19)]) 16,o1 21 (.app 3 1 8 (.t 13) (.t 20)) 17,o1 3 (.mv (.t 21)) 18]) (.seq (.reg 19 4 [o1 22 (.mv (.t 3)) 19,o1 23 (.len (.t 22)) 20,o1 24 (.bin .sub (.t 23) (.k (.int .i64 1))) 21,o1 5 (.mv (.t 24)) 22]) (.block 2 (.loop (.seq (.seq (.draw 23 14 [] [] [o3 25 (.mv (.t 5)) 23,o3 26 (.bin .gtr (.t 25) (.k (.int .i64 0))) 24,o3 27 (.mv (.t 26)) 25, .mk (.some 28) (.mv (.t 3)) (.some (27, .true)) 26 (.some []) .true []
 .false, .mk (.some 29) (.mv (.t 5)) (.some (27, .true)) 27 (.some []) .true [] .false, .mk (.some 30) (.iaddr 1 (.t 28) (.t 29)) (.some (27, .true)) 28 (.some []) .true [] .false,
 .mk (.some 31) (.load 1 .false (.t 30)) (.some (27, .true)) 29 (.some []) .true [] .false, .mk (.some 32) (.mv (.t 3)) (.some (27, .true)) 30 (.some []) .true [] .false, .mk
 (.some 33) (.mv (.t 5)) (.some (27, .true)) 31 (.some []) .true [] .false, .mk (.some 34) (.bin .sub (.t 33) (.k (.int .i64 1))) (.some (27, .true)) 32 (.some []) .true [] .false,
 .mk (.some 35) (.iaddr 1 (.t 32) (.t 34)) (.some (27, .true)) 33 (.some []) .true [] .false, .mk (.some 36) (.load 1 .false (.t 35)) (.some (27, .true)) 34 (.some []) .true []
 .false, .mk (.some 37) (.bin .lss (.t 31) (.t 36)) (.some (27, .true)) 35 (.some []) .true [] .false,o3 38 (.pick (.t 27) (.t 37) (.k (.bool .false))) 36]) (.cond (.t 38) .skip (.exit 2))) (.seq (.block 3 (.draw 37 18 [] [] [o3 41 (.mv (.t 3)) 37,o3 42 (.mv (.t 5)) 38,o3 43 (.mv (.t 3)) 39,o3 44 (.mv (.t 5)) 40,o3 45 (.bin .sub (.t 44) (.k (.int .i64 1))) 41,o3 46 (.mv (.t 3)) 42,o3 47 (.mv (.t 5)) 43,o3 48 (.bin .sub (.t 47) (.k (.int .i64 1))) 44,o3 49 (.iaddr 1 (.t 46) (.t 48)) 45,o3 50 (.load 1 .false (.t 49)) 46,o3 51 (.mv (.t 3)) 47,o3 52 (.mv (.t 5)) 48,o3 53 (.iaddr 1 (.t 51) (.t 52)) 49,o3 54 (.load 1 .false (.t 53)) 50,o3 55 (.iaddr 1 (.t 41) (.t 42)) 51,o4 (.store 1 (.t 55) (.t 50)) 52,o3 56 (.iaddr 1 (.t 43) (.t 45)) 53,o4 (.store 1 (.t 56) (.t 54)) 54])) (.reg 55 3
 [o1 39 (.mv (.t 5)) 55,o1 40 (.bin .sub (.t 39) (.k (.int .i64 1))) 56,o1 5 (.mv (.t 40)) 57])))))))) (.reg 58 3 [o1 11 (.mv (.t 4)) 58,o1 12 (.bin .add (.t 11) (.k (.int .i64 1))) 59,o1 4 (.mv (.t 12)) 60])))))) (.seq (.reg 61 2 [o1 57 (.mv (.t 3)) 61,o1 2 (.mv (.t 57)) 62]) .ret)))
def rs34:List IRes:=[.tmp 2]
set_option maxRecDepth 100000 in
theorem comp34:Comp Tryz.prog 34 ir34 rs34 58:=⟨⟨_,_,63,Tryz.func34,rfl,by kernel_rfl,by kernel_rfl,rfl⟩⟩
theorem body34:HasBody Tryz.prog 34:=hasBody_of (by kernel_rfl)

def ir35:IC :=
 .seq (.reg 0 3 [o1 2 (.box 42 (.t 0)) 0,o1 3 (.box 42 (.t 1)) 1,o1 4 (.mv (.k (.bool .false))) 2]) (.seq (.reg 3 27 [o1 5 (.faddr 0 (.t 2)) 3,o1 6 (.load 1 .false (.t 5)) 4,o1 7 (.faddr 0 (.t 3)) 5,o1 8 (.load 1 .false (.t 7)) 6,o1 9 (.bin .neq (.t 6) (.t 8)) 7,o1 10 (.mv (.t 9)) 8, .mk (.some 11) (.faddr 1 (.t 2)) (.some (10, .true)) 9 .none .false [] .false, .mk
 (.some 12) (.load 1 .false (.t 11)) (.some (10, .true)) 10 .none .false [] .false, .mk (.some 13) (.faddr 1 (.t 3)) (.some (10, .true)) 11 .none .false [] .false, .mk (.some 14)
 (.load 1 .false (.t 13)) (.some (10, .true)) 12 .none .false [] .false, .mk (.some 15) (.bin .eql (.t 12) (.t 14)) (.some (10, .true)) 13 .none .false [] .false,o1 16 (.pick (.t 10) (.t 15) (.k (.bool .false))) 14,o1 17 (.mv (.t 16)) 15, .mk (.some 18) (.faddr 2 (.t 2)) (.some
 (17, .true)) 16 .none .false [] .false, .mk (.some 19) (.load 1 .false (.t 18)) (.some (17, .true)) 17 .none .false [] .false, .mk (.some 20) (.faddr 3 (.t 3)) (.some (17, .true))
 18 .none .false [] .false, .mk (.some 21) (.load 1 .false (.t 20)) (.some (17, .true)) 19 .none .false [] .false, .mk (.some 22) (.bin .lss (.t 19) (.t 21)) (.some (17, .true)) 20
 .none .false [] .false,o1 23 (.pick (.t 17) (.t 22) (.k (.bool .false))) 21,o1 24 (.mv (.t 23)) 22,
 .mk (.some 25) (.faddr 2 (.t 3)) (.some (24, .true)) 23 .none .false [] .false, .mk (.some 26) (.load 1 .false (.t 25)) (.some (24, .true)) 24 .none .false [] .false, .mk (.some
 27) (.faddr 3 (.t 2)) (.some (24, .true)) 25 .none .false [] .false, .mk (.some 28) (.load 1 .false (.t 27)) (.some (24, .true)) 26 .none .false [] .false, .mk (.some 29) (.bin
 .lss (.t 26) (.t 28)) (.some (24, .true)) 27 .none .false [] .false,o1 30 (.pick (.t 24) (.t 29) (.k (.bool .false))) 28,o1 4 (.mv (.t 30)) 29]) .ret)
def rs35:List IRes:=[.tmp 4]
set_option maxRecDepth 100000 in
theorem comp35:Comp Tryz.prog 35 ir35 rs35 31:=⟨⟨_,_,30,Tryz.func35,rfl,by kernel_rfl,by kernel_rfl,rfl⟩⟩
theorem body35:HasBody Tryz.prog 35:=hasBody_of (by kernel_rfl)

end Go.Proofs.YtefnikpoimaiiaaGreat

namespace Go.Proofs.YtefnikpoimaiiaaGreat
open Go.Pal
def ir36:IC :=
 .seq (.reg 0 2 [o1 2 (.box 38 (.t 0)) 0,o1 4 (.mv (.k (.int .i64 0))) 1]) (.seq (.seq (.reg 2 3 [o1 9 (.load 2 .true (.t 2)) 2,o1 10 (.call 65 [.t 9]) 3,o1 5 (.mv (.t 10)) 4]) (.seq (.reg 5 2 [o1 11 (.mv (.t 5)) 5,o1 12 (.bin .neq (.t 11) (.k (.int .i64 0))) 6])
 (.cond (.t 12) (.seq (.reg 7 2 [o1 13 (.mv (.t 5)) 7,o1 4 (.mv (.t 13)) 8]) .ret) .skip))) (.seq (.reg
 9 3 [o1 14 (.load 2 .true (.t 2)) 9,o1 15 (.call 66 [.t 14]) 10,o1 6 (.mv (.t 15)) 11]) (.seq (.seq (.reg 12 3 [o1 16 (.mv (.t 1)) 12,o1 17 (.len (.t 16)) 13,o1 18 (.mv (.k (.int .i64 0))) 14]) (.block 0 (.loop (.seq (.reg 15 1 [o1 19 (.bin .lss (.t 18) (.t 17)) 15]) (.seq (.cond (.t 19) .skip (.exit 0)) (.seq (.block 1 (.seq (.reg 16 5 [o1 20 (.mv (.t 18)) 16,o1 21 (.iaddr 1 (.t 16) (.t 18)) 17,o1 22 (.load 1 .false (.t 21)) 18,o1 7 (.mv (.t 20)) 19,o1 8 (.mv (.t 22)) 20]) (.seq (.reg 21 23 [o1 23 (.mv (.t 6)) 21,o1 24 (.mv (.t 8)) 22, .mk (.some 25) (.lkp 3 (.agg (Array.mk [.int .i64 0, .int .i64 0, .int .i64 0, .int .i64 0, .slice .none 0 0])) .false (.t 23) (.t 24)) .none 23 .none
 .false [] .false,o1 26 (.fld 0 1 .false (.t 25)) 24,o1 27 (.mv (.t 8)) 25,o1 28 (.bin .neq (.t 26) (.t 27)) 26,o1 29 (.mv (.t 28)) 27, .mk (.some 30) (.mv (.t 8)) (.some (29, .false)) 28 .none .false []
 .false, .mk (.some 31) (.bin .eql (.t 30) (.k (.int .i64 0))) (.some (29, .false)) 29 .none .false [] .false,o1 32 (.pick (.t 29) (.k (.bool .true)) (.t 31)) 30,o1 33 (.mv (.t 32)) 31, .mk (.some 34) (.mv (.t 7)) (.some (33, .false)) 32 .none .false [] .false, .mk (.some 35)
 (.bin .gtr (.t 34) (.k (.int .i64 0))) (.some (33, .false)) 33 .none .false [] .false, .mk (.some 36) (.mv (.t 35)) (.some (33, .false)) 34 .none .false [] .false, .mk (.some 37)
 (.mv (.t 8)) (.some (36, .true)) 35 .none .false [] .false, .mk (.some 38) (.mv (.t 1)) (.some (36, .true)) 36 .none .false [] .false, .mk (.some 39) (.mv (.t 7)) (.some (36,
 .true)) 37 .none .false [] .false, .mk (.some 40) (.bin .sub (.t 39) (.k (.int .i64 1))) (.some (36, .true)) 38 .none .false [] .false, .mk (.some 41) (.iaddr 1 (.t 38) (.t 40))
 (.some (36, .true)) 39 .none .false [] .false, .mk (.some 42) (.load 1 .false (.t 41)) (.some (36, .true)) 40 .none .false [] .false, .mk (.some 43) (.bin .leq (.t 37) (.t 42))
 (.some (36, .true)) 41 .none .false [] .false, .mk (.some 44) (.pick (.t 36) (.t 43) (.k (.bool .false))) (.some (33, .false)) 42 .none .false [] .false,o1 45 (.pick (.t 33) (.k (.bool .true)) (.t 44)) 43]) (.cond (.t 45) (.seq (.reg 44 1 [o1 4 (.mv (.k (.int .i64 2))) 44]) .ret)
 .skip)))) (.reg 45 2 [o1 46 (.bin .add (.t 18) (.k (.int .i64 1))) 45,o1 18 (.mv (.t 46)) 46])))))))
 (.seq (.reg 47 4 [o1 47 (.load 2 .true (.t 2)) 47,o1 48 (.mv (.t 1)) 48,o1 49 (.call 67 [.t 47, .t 48]) 49,o1 4 (.mv (.t 49)) 50]) .ret))))
def rs36:List IRes:=[.tmp 4]
set_option maxRecDepth 100000 in
theorem comp36:Comp Tryz.prog 36 ir36 rs36 50:=⟨⟨_,_,51,Tryz.func36,rfl,by kernel_rfl,by kernel_rfl,rfl⟩⟩
theorem body36:HasBody Tryz.prog 36:=hasBody_of (by kernel_rfl)

def ir65:IC :=
 .seq (.reg 0 2 [o1 1 (.box 38 (.t 0)) 0,o1 2 (.mv (.k (.int .i64 0))) 1]) (.seq (.seq (.reg 2 3 [o1 5 (.call 97 []) 2,o1 6 (.len (.t 5)) 3,o1 7 (.mv (.k (.int .i64 0))) 4]) (.block 0 (.loop (.seq (.reg 5 1 [o1 8 (.bin .lss (.t 7) (.t 6)) 5]) (.seq (.cond (.t 8) .skip (.exit 0)) (.seq (.block 1 (.seq
 (.reg 6 4 [o1 9 (.iaddr 2 (.t 5) (.t 7)) 6,o1 10 (.load 2 .true (.t 9)) 7,o1 4 (.alloc 219 [.int .i64 0, .nilFunc]) 8,o2 (.store 2 (.t 4) (.t 10)) 9]) (.seq (.reg 10 5 [o1 11 (.faddr 1 (.t 4)) 10,o1 12 (.load 1 .false (.t 11)) 11,o1 13 (.load 2 .true (.t 1)) 12,
 o1 14 (.callv (.t 12) [.t 13]) 13,o1 15 (.un .not (.t 14)) 14]) (.cond (.t 15) (.seq (.reg 15 3 [o1 16 (.faddr 0 (.t 4)) 15,o1 17 (.load 1 .false (.t 16)) 16,o1 2 (.mv (.t 17)) 17]) .ret) .skip)))) (.reg 18 2 [o1 18 (.bin .add (.t 7) (.k (.int .i64 1))) 18,o1 7 (.mv (.t 18)) 19]))))))) (.seq (.reg 20 1 [o1 2 (.mv (.k (.int .i64 0))) 20]) .ret))
def rs65:List IRes:=[.tmp 2]
set_option maxRecDepth 100000 in
theorem comp65:Comp Tryz.prog 65 ir65 rs65 19:=⟨⟨_,_,21,Tryz.func65,rfl,by kernel_rfl,by kernel_rfl,rfl⟩⟩
theorem body65:HasBody Tryz.prog 65:=hasBody_of (by kernel_rfl)

def ir97:IC :=
 .seq (.reg 0 1 [o1 0 (.mv (.k (.slice .none 0 0))) 0]) (.seq (.reg 1 9 [o1 1 (.bld [(0,1),(1,1)] [.int .i64 0, .nilFunc] [(0, .k (.int .i64 3)),(1, .f 133)]) 1,o1 2 (.bld [(0,1),(1,1)] [.int .i64 0, .nilFunc] [(0, .k (.int .i64 4)),(1, .f 136)]) 2,o1 3 (.bld [(0,1),(1,1)] [.int .i64 0, .nilFunc] [(0, .k (.int .i64 2)),(1, .f 140)]) 3,o1 4 (.bld [(0,1),(1,1)] [.int .i64 0, .nilFunc] [(0, .k (.int .i64 6)),(1, .f 143)]) 4,o1 5 (.bld [(0,1),(1,1)] [.int .i64 0, .nilFunc] [(0, .k (.int .i64 7)),(1, .f 144)]) 5,o1 6 (.bld [(0,1),(1,1)] [.int .i64 0, .nilFunc] [(0, .k (.int .i64 8)),(1, .f 146)]) 6,o1 7 (.bld [(0,1),(1,1)] [.int .i64 0, .nilFunc] [(0, .k (.int .i64 1)),(1, .f 147)]) 7,o1 8 (.bsl 219 2 7 [.int .i64 0, .nilFunc, .int .i64 0, .nilFunc, .int .i64 0, .nilFunc, .int .i64 0, .nilFunc, .int .i64 0, .nilFunc, .int .i64 0, .nilFunc, .int .i64 0, .nilFunc] [(0, .t 1),(1, .t 2),(2, .t 3),(3, .t 4),(4, .t 5),(5, .t 6),(6, .t 7)]) 8,o1 0 (.mv (.t 8)) 9]) .ret)
def rs97:List IRes:=[.tmp 0]
set_option maxRecDepth 100000 in
theorem comp97:Comp Tryz.prog 97 ir97 rs97 9:=⟨⟨_,_,10,Tryz.func97,rfl,by kernel_rfl,by kernel_rfl,rfl⟩⟩
theorem body97:HasBody Tryz.prog 97:=hasBody_of (by kernel_rfl)

def ir38:IC :=
 .seq (.reg 0 2 [o1 2 (.box 38 (.t 0)) 0,o1 4 (.mv (.k (.slice .none 0 0))) 1]) (.seq (.seq (.reg 2 2
 [o1 5 (.mv (.t 1)) 2,o1 6 (.bin .eql (.t 5) (.k (.int .i64 0))) 3]) (.cond (.t 6) (.seq (.reg 4 3 [o1 7 (.faddr 0 (.t 2)) 4,o1 8 (.load 1 .false (.t 7)) 5,o1 4 (.mv (.t 8)) 6]) .ret) .skip)) (.seq (.reg 7 6 [o1 9 (.load 2 .true (.t 2)) 7,o1 10 (.call 66 [.t 9]) 8,
 o1 11 (.mv (.t 1)) 9, .mk (.some 12) (.lkp 3 (.agg (Array.mk [.int .i64 0, .int .i64 0, .int .i64 0, .int .i64 0, .slice .none 0 0])) .false
 (.t 10) (.t 11)) .none 10 .none .false [] .false,o1 13 (.fld 4 1 .false (.t 12)) 11,o1 4 (.mv (.t 13)) 12]) .ret))
def rs38:List IRes:=[.tmp 4]
set_option maxRecDepth 100000 in
theorem comp38:Comp Tryz.prog 38 ir38 rs38 14:=⟨⟨_,_,13,Tryz.func38,rfl,by kernel_rfl,by kernel_rfl,rfl⟩⟩
theorem body38:HasBody Tryz.prog 38:=hasBody_of (by kernel_rfl)

def ir40:IC :=
 .seq (.reg 0 3 [o1 2 (.box 38 (.t 0)) 0,o1 3 (.box 3 (.t 1)) 1,o1 4 (.mv (.k .nilFunc)) 2]) (.seq (.reg 3 2 [o1 5 (.mkf 68 [] [.t 2, .t 3]) 3,o1 4 (.mv (.t 5)) 4])
 .ret)
def rs40:List IRes:=[.tmp 4]
set_option maxRecDepth 100000 in
theorem comp40:Comp Tryz.prog 40 ir40 rs40 6:=⟨⟨_,_,5,Tryz.func40,rfl,by kernel_rfl,by kernel_rfl,rfl⟩⟩
theorem body40:HasBody Tryz.prog 40:=hasBody_of (by kernel_rfl)

def ir41:IC :=
 .seq (.reg 0 1 [o1 4 (.mv (.k (.bool .false))) 0]) (.seq (.reg 1 5 [o1 5 (.mv (.t 0)) 1,o1 6 (.mv (.t 1)) 2,o1 7 (.call 72 [.t 5, .t 6]) 3,o1 8 (.bin .geq (.t 7) (.k (.int .i64 0))) 4,o1 4 (.mv (.t 8)) 5]) .ret)
def rs41:List IRes:=[.tmp 4]
set_option maxRecDepth 100000 in
theorem comp41:Comp Tryz.prog 41 ir41 rs41 9:=⟨⟨_,_,6,Tryz.func41,rfl,by kernel_rfl,by kernel_rfl,rfl⟩⟩
theorem body41:HasBody Tryz.prog 41:=hasBody_of (by kernel_rfl)

def ir66:IC :=
 .seq (.reg 0 2 [o1 1 (.box 38 (.t 0)) 0,o1 2 (.mv (.k (.map .none))) 1]) (.seq (.reg 2 2 [o1 6 .mkm 2,o1 3 (.mv (.t 6)) 3]) (.seq (.seq (.reg 4 4 [o1 7 (.faddr 1 (.t 1)) 4,o1 8 (.load 1 .false (.t 7)) 5,o1 9 (.len (.t 8)) 6,o1 10 (.mv (.k (.int .i64 0))) 7]) (.block 0 (.loop (.seq (.reg 8 1 [o1 11 (.bin .lss (.t 10) (.t 9)) 8]) (.seq (.cond (.t 11) .skip (.exit 0))
 (.seq (.block 1 (.seq (.reg 9 4 [o1 12 (.iaddr 5 (.t 8) (.t 10)) 9,o1 13 (.load 5 .true (.t 12)) 10,
 o1 5 (.alloc 119 [.int .i64 0, .int .i64 0, .int .i64 0, .int .i64 0, .slice .none 0 0]) 11,o2 (.store 5 (.t 5) (.t 13)) 12]) (.reg 13 5 [o1 14 (.mv (.t 3)) 13,o1 15 (.faddr 0 (.t 5)) 14,o1 16 (.load 1 .false (.t 15)) 15,o1 17 (.load 5 .true (.t 5)) 16,o2 (.mup 3 (.t 14) (.t 16) (.t 17)) 17]))) (.reg 18 2 [o1 18 (.bin .add (.t 10) (.k (.int .i64 1))) 18,o1 10 (.mv (.t 18)) 19]))))))) (.seq (.reg 20 2 [o1 19 (.mv (.t 3)) 20,o1 2 (.mv (.t 19)) 21]) .ret)))
def rs66:List IRes:=[.tmp 2]
set_option maxRecDepth 100000 in
theorem comp66:Comp Tryz.prog 66 ir66 rs66 20:=⟨⟨_,_,22,Tryz.func66,rfl,by kernel_rfl,by kernel_rfl,rfl⟩⟩
theorem body66:HasBody Tryz.prog 66:=hasBody_of (by kernel_rfl)

def ir67:IC :=
 .seq (.reg 0 2 [o1 2 (.box 38 (.t 0)) 0,o1 4 (.mv (.k (.int .i64 0))) 1]) (.seq (.reg 2 3 [o1 13 (.load 2 .true (.t 2)) 2,o1 14 (.call 66 [.t 13]) 3,o1 5 (.mv (.t 14)) 4]) (.seq (.seq (.reg 5 3 [o1 15 (.mv (.t 1)) 5,o1 16 (.len (.t 15)) 6,o1 17 (.mv (.k (.int .i64 0))) 7]) (.block 0 (.loop (.seq (.reg 8 1 [o1 18 (.bin .lss (.t 17) (.t 16)) 8]) (.seq (.cond (.t 18)
 .skip (.exit 0)) (.seq (.block 1 (.seq (.reg 9 3 [o1 19 (.iaddr 1 (.t 15) (.t 17)) 9,o1 20 (.load 1 .false (.t 19)) 10,o1 7 (.mv (.t 20)) 11]) (.seq (.reg 12 5 [o1 21 (.mv (.t 5)) 12,o1 22 (.mv (.t 7)) 13, .mk (.some 23) (.lkp 3 (.agg (Array.mk [.int .i64 0, .int .i64 0, .int .i64 0, .int .i64 0, .slice .none 0 0])) .false (.t 21) (.t 22))
 .none 14 .none .false [] .false,o1 24 (.fld 1 1 .false (.t 23)) 15,o1 8 (.mv (.t 24)) 16]) (.seq
 (.reg 17 8 [o1 25 (.mv (.t 8)) 17,o1 26 (.bin .neq (.t 25) (.k (.int .i64 0))) 18,o1 27 (.mv (.t 26)) 19, .mk (.some 28) (.mv (.t 1)) (.some (27, .true)) 20 .none .false [] .false, .mk (.some 29) (.mv (.t 8)) (.some (27, .true)) 21 .none
 .false [] .false, .mk (.some 30) (.call 41 [.t 28, .t 29]) (.some (27, .true)) 22 .none .false [] .false, .mk (.some 31) (.un .not (.t 30)) (.some (27, .true)) 23 .none .false []
 .false,o1 32 (.pick (.t 27) (.t 31) (.k (.bool .false))) 24]) (.cond (.t 32) (.seq (.reg 25 1 [o1 4 (.mv (.k (.int .i64 10))) 25]) .ret) .skip))))) (.reg 26 2 [o1 33 (.bin .add (.t 17) (.k (.int .i64 1))) 26,o1 17 (.mv (.t 33)) 27]))))))) (.seq (.seq (.reg 28 3 [o1 34 (.mv (.t 1)) 28,o1 35 (.len (.t 34)) 29,o1 36 (.mv (.k (.int .i64 0))) 30]) (.block 2 (.loop (.seq (.reg 31 1 [o1 37 (.bin .lss (.t 36) (.t 35)) 31]) (.seq (.cond (.t 37) .skip (.exit 2)) (.seq (.block 3 (.seq (.reg 32 3 [o1 38 (.iaddr 1 (.t 34) (.t 36)) 32,o1 39 (.load 1 .false (.t 38)) 33,o1 10 (.mv (.t 39)) 34]) (.seq (.reg 35 3 [o1 40 (.mv (.t 1)) 35,o1 41 (.len (.t 40)) 36,o1 42 (.mv (.k (.int .i64 0))) 37]) (.block 4 (.loop
 (.seq (.reg 38 1 [o1 43 (.bin .lss (.t 42) (.t 41)) 38]) (.seq (.cond (.t 43) .skip (.exit 4)) (.seq (.block 5 (.seq (.reg 39 3 [o1 44 (.iaddr 1 (.t 40) (.t 42)) 39,o1 45 (.load 1 .false (.t 44)) 40,o1 12 (.mv (.t 45)) 41]) (.seq (.reg 42 7 [o1 46 (.mv (.t 5)) 42,o1 47 (.mv (.t 10)) 43, .mk (.some
 48) (.lkp 3 (.agg (Array.mk [.int .i64 0, .int .i64 0, .int .i64 0, .int .i64 0, .slice .none 0 0])) .false (.t 46) (.t 47)) .none 44 .none .false [] .false,o1 49 (.mv (.t 5)) 45,o1 50 (.mv (.t 12)) 46, .mk (.some 51) (.lkp 3 (.agg (Array.mk [.int .i64 0, .int .i64 0, .int .i64
 0, .int .i64 0, .slice .none 0 0])) .false (.t 49) (.t 50)) .none 47 .none .false [] .false,o1 52 (.call 98 [.t 48, .t 51]) 48]) (.cond (.t
 52) (.seq (.reg 49 1 [o1 4 (.mv (.k (.int .i64 9))) 49]) .ret) .skip)))) (.reg 50 2 [o1 53 (.bin .add (.t 42) (.k (.int .i64 1))) 50,o1 42 (.mv (.t 53)) 51]))))))))) (.reg 52 2 [o1 54 (.bin .add (.t 36) (.k (.int .i64 1))) 52,o1 36 (.mv (.t 54)) 53]))))))) (.seq (.reg 54 1 [o1 4 (.mv (.k (.int .i64 0))) 54]) .ret))))
def rs67:List IRes:=[.tmp 4]
set_option maxRecDepth 100000 in
theorem comp67:Comp Tryz.prog 67 ir67 rs67 55:=⟨⟨_,_,55,Tryz.func67,rfl,by kernel_rfl,by kernel_rfl,rfl⟩⟩
theorem body67:HasBody Tryz.prog 67:=hasBody_of (by kernel_rfl)

def ir68:IC :=
 .seq (.reg 0 1 [o1 4 (.mv (.k (.slice .none 0 0))) 0]) (.seq (.seq (.reg 1 4 [o1 9 (.faddr 1 (.t 1)) 1,
 o1 10 (.load 1 .false (.t 9)) 2,o1 11 (.len (.t 10)) 3,o1 12 (.mv (.k (.int .i64 0))) 4]) (.block 0 (.loop (.seq (.reg 5 1 [o1 13 (.bin .lss (.t 12) (.t 11)) 5]) (.seq (.cond (.t 13) .skip (.exit 0))
 (.seq (.block 1 (.seq (.reg 6 4 [o1 14 (.iaddr 5 (.t 10) (.t 12)) 6,o1 15 (.load 5 .true (.t 14)) 7,
 o1 6 (.alloc 119 [.int .i64 0, .int .i64 0, .int .i64 0, .int .i64 0, .slice .none 0 0]) 8,o2 (.store 5 (.t 6) (.t 15)) 9]) (.seq (.reg 10 4 [o1 16 (.faddr 1 (.t 6)) 10,o1 17 (.load 1 .false (.t 16)) 11,o1 18 (.load 1 .false (.t 2)) 12,o1 19 (.bin .eql (.t 17) (.t 18)) 13]) (.cond (.t 19) (.reg 14 5 [o1 20 (.mv (.t 4)) 14,o1 21 (.load 5 .true (.t 6)) 15,o1 22 (.bsl 119 5 1 [.int .i64 0, .int .i64 0, .int .i64 0, .int .i64 0, .slice .none 0 0] [(0, .t 21)]) 16,o1 23 (.app 119 5 56 (.t 20) (.t 22)) 17,
 o1 4 (.mv (.t 23)) 18]) .skip)))) (.reg 19 2 [o1 24 (.bin .add (.t 12) (.k (.int .i64 1))) 19,o1 12 (.mv (.t 24)) 20]))))))) (.seq (.reg 21 2 [o1 25 (.mv (.t 4)) 21,o1 26 (.call 69 [.t 25, .f 70]) 22]) (.seq (.reg 23 3 [o1 27 (.mv (.t 4)) 23,o1 28 (.len (.t 27)) 24,o1 29 (.mv (.k (.int .i64 0))) 25]) (.block 2 (.loop (.seq (.reg 26 1 [o1 30 (.bin .lss (.t 29) (.t 28)) 26]) (.seq (.cond (.t 30) .skip (.exit 2)) (.seq (.block 3 (.seq (.reg 27 4 [o1 31 (.iaddr 5 (.t 27) (.t 29)) 27,o1 32 (.load 5 .true (.t 31)) 28,o1 8 (.alloc 119 [.int .i64 0, .int .i64 0, .int .i64 0, .int .i64 0, .slice .none 0 0]) 29,o2 (.store 5 (.t 8) (.t 32)) 30]) (.seq (.reg 31 4 [o1 33 (.mv (.t 0)) 31,o1 34 (.load 5 .true (.t 8)) 32,o1 35 (.callv (.t 33) [.t 34]) 33,o1 36 (.un .not (.t 35)) 34]) (.cond (.t 36) .ret .skip)))) (.reg 35 2 [o1 37 (.bin .add (.t 29) (.k (.int .i64 1))) 35,o1 29 (.mv (.t 37)) 36])))))))))
def rs68:List IRes:=[]
set_option maxRecDepth 100000 in
theorem comp68:Comp Tryz.prog 68 ir68 rs68 38:=⟨⟨_,_,37,Tryz.func68,rfl,by kernel_rfl,by kernel_rfl,rfl⟩⟩
theorem body68:HasBody Tryz.prog 68:=hasBody_of (by kernel_rfl)

def ir70:IC :=
 .seq (.reg 0 3 [o1 2 (.box 119 (.t 0)) 0,o1 3 (.box 119 (.t 1)) 1,o1 4 (.mv (.k (.int .i64 0))) 2]) (.seq (.reg 3 18 [o1 5 (.faddr 2 (.t 2)) 3,o1 6 (.load 1 .false (.t 5)) 4,o1 7 (.faddr 2 (.t 3)) 5,o1 8 (.load 1 .false (.t 7)) 6,o1 9 (.bin .sub (.t 6) (.t 8)) 7,o1 10 (.faddr 3 (.t 2)) 8,o1 11 (.load 1 .false (.t 10)) 9,
 o1 12 (.faddr 3 (.t 3)) 10,o1 13 (.load 1 .false (.t 12)) 11,o1 14 (.bin .sub (.t 11) (.t 13)) 12,o1 15 (.faddr 0 (.t 2)) 13,o1 16 (.load 1 .false (.t 15)) 14,
 o1 17 (.faddr 0 (.t 3)) 15,o1 18 (.load 1 .false (.t 17)) 16,o1 19 (.bin .sub (.t 16) (.t 18)) 17,o1 20 (.bsl 3 1 3 [.int .i64 0, .int .i64 0, .int .i64 0] [(0, .t 9),(1, .t 14),(2, .t 19)]) 18,o1 21 (.call 71 [.t 20]) 19,o1 4 (.mv (.t 21)) 20]) .ret)
def rs70:List IRes:=[.tmp 4]
set_option maxRecDepth 100000 in
theorem comp70:Comp Tryz.prog 70 ir70 rs70 22:=⟨⟨_,_,21,Tryz.func70,rfl,by kernel_rfl,by kernel_rfl,rfl⟩⟩
theorem body70:HasBody Tryz.prog 70:=hasBody_of (by kernel_rfl)

def ir71:IC :=
 .seq (.reg 0 1 [o1 2 (.mv (.k (.int .i64 0))) 0]) (.seq (.seq (.reg 1 3 [o1 5 (.mv (.t 0)) 1,o1 6 (.len (.t 5)) 2,o1 7 (.mv (.k (.int .i64 0))) 3]) (.block 0 (.loop (.seq (.reg 4 1 [o1 8 (.bin .lss (.t 7) (.t 6)) 4]) (.seq (.cond (.t 8) .skip (.exit 0)) (.seq (.block 1 (.seq (.reg 5 3 [o1 9 (.iaddr 1 (.t 5) (.t 7)) 5,o1 10 (.load 1 .false (.t 9)) 6,o1 4 (.mv (.t 10)) 7]) (.seq (.reg 8 2 [o1 11 (.mv (.t 4)) 8,o1 12 (.bin .neq (.t 11) (.k (.int .i64 0))) 9]) (.cond (.t 12) (.seq (.reg 10 2 [o1 13 (.mv (.t 4)) 10,o1 2 (.mv (.t 13)) 11]) .ret) .skip)))) (.reg 12 2 [o1 14 (.bin .add (.t 7) (.k (.int .i64 1))) 12,o1 7 (.mv (.t 14)) 13]))))))) (.seq (.reg 14 1 [o1 2 (.mv (.k (.int .i64 0))) 14]) .ret))
def rs71:List IRes:=[.tmp 2]
set_option maxRecDepth 100000 in
theorem comp71:Comp Tryz.prog 71 ir71 rs71 15:=⟨⟨_,_,15,Tryz.func71,rfl,by kernel_rfl,by kernel_rfl,rfl⟩⟩
theorem body71:HasBody Tryz.prog 71:=hasBody_of (by kernel_rfl)

def ir72:IC :=
 .seq (.reg 0 1 [o1 4 (.mv (.k (.int .i64 0))) 0]) (.seq (.seq (.reg 1 3 [o1 6 (.mv (.t 0)) 1,o1 7 (.len (.t 6)) 2,o1 8 (.mv (.k (.int .i64 0))) 3]) (.block 0 (.loop (.seq (.reg 4 1 [o1 9 (.bin .lss (.t 8) (.t 7)) 4]) (.seq (.cond (.t 9) .skip (.exit 0)) (.seq (.block 1 (.seq (.reg 5 2 [o1 10 (.mv (.t 8)) 5,
 o1 5 (.mv (.t 10)) 6]) (.seq (.reg 7 6 [o1 11 (.mv (.t 1)) 7,o1 12 (.mv (.t 0)) 8,o1 13 (.mv (.t 5)) 9,o1 14 (.iaddr 1 (.t 12) (.t 13)) 10,o1 15 (.load 1 .false (.t 14)) 11,o1 16 (.bin .eql (.t 11) (.t 15)) 12]) (.cond (.t 16) (.seq (.reg 13 2 [o1 17 (.mv (.t 5)) 13,o1 4 (.mv (.t 17)) 14]) .ret) .skip)))) (.reg 15 2 [o1 18 (.bin .add (.t 8) (.k (.int .i64 1))) 15,o1 8 (.mv (.t 18)) 16]))))))) (.seq (.reg 17 1 [o1 4 (.mv (.k (.int .i64 (-1)))) 17]) .ret))
def rs72:List IRes:=[.tmp 4]
set_option maxRecDepth 100000 in
theorem comp72:Comp Tryz.prog 72 ir72 rs72 19:=⟨⟨_,_,18,Tryz.func72,rfl,by kernel_rfl,by kernel_rfl,rfl⟩⟩
theorem body72:HasBody Tryz.prog 72:=hasBody_of (by kernel_rfl)

def ir98:IC :=
 .seq (.reg 0 3 [o1 2 (.box 119 (.t 0)) 0,o1 3 (.box 119 (.t 1)) 1,o1 4 (.mv (.k (.bool .false))) 2]) (.seq (.reg 3 27 [o1 5 (.faddr 0 (.t 2)) 3,o1 6 (.load 1 .false (.t 5)) 4,o1 7 (.faddr 0 (.t 3)) 5,o1 8 (.load 1 .false (.t 7)) 6,o1 9 (.bin .neq (.t 6) (.t 8)) 7,o1 10 (.mv (.t 9)) 8, .mk (.some 11) (.faddr 1 (.t 2)) (.some (10, .true)) 9 .none .false []
 .false, .mk (.some 12) (.load 1 .false (.t 11)) (.some (10, .true)) 10 .none .false [] .false, .mk (.some 13) (.faddr 1 (.t 3)) (.some (10, .true)) 11 .none .false [] .false, .mk
 (.some 14) (.load 1 .false (.t 13)) (.some (10, .true)) 12 .none .false [] .false, .mk (.some 15) (.bin .eql (.t 12) (.t 14)) (.some (10, .true)) 13 .none .false [] .false,o1 16 (.pick (.t 10) (.t 15) (.k (.bool .false))) 14,o1 17 (.mv (.t 16)) 15, .mk (.some 18) (.faddr 2 (.t
 2)) (.some (17, .true)) 16 .none .false [] .false, .mk (.some 19) (.load 1 .false (.t 18)) (.some (17, .true)) 17 .none .false [] .false, .mk (.some 20) (.faddr 3 (.t 3)) (.some
 (17, .true)) 18 .none .false [] .false, .mk (.some 21) (.load 1 .false (.t 20)) (.some (17, .true)) 19 .none .false [] .false, .mk (.some 22) (.bin .lss (.t 19) (.t 21)) (.some
 (17, .true)) 20 .none .false [] .false,o1 23 (.pick (.t 17) (.t 22) (.k (.bool .false))) 21,o1 24 (.mv (.t 23)) 22, .mk (.some 25) (.faddr 2 (.t 3)) (.some (24, .true)) 23 .none .false [] .false, .mk (.some 26) (.load 1 .false (.t 25)) (.some (24, .true)) 24 .none .false []
 .false, .mk (.some 27) (.faddr 3 (.t 2)) (.some (24, .true)) 25 .none .false [] .false, .mk (.some 28) (.load 1 .false (.t 27)) (.some (24, .true)) 26 .none .false [] .false, .mk
 (.some 29) (.bin .lss (.t 26) (.t 28)) (.some (24, .true)) 27 .none .false [] .false,o1 30 (.pick (.t 24) (.t 29) (.k (.bool .false))) 28,
 o1 4 (.mv (.t 30)) 29]) .ret)
def rs98:List IRes:=[.tmp 4]
set_option maxRecDepth 100000 in
theorem comp98:Comp Tryz.prog 98 ir98 rs98 31:=⟨⟨_,_,30,Tryz.func98,rfl,by kernel_rfl,by kernel_rfl,rfl⟩⟩
theorem body98:HasBody Tryz.prog 98:=hasBody_of (by kernel_rfl)

def ir100:IC :=
 .seq (.reg 0 1 [o1 2 (.mv (.k (.int .i64 0))) 0]) (.seq (.cond (.k (.bool .false)) (.seq (.reg 1 4 [o1 3 (.mv (.t 0)) 1,o1 4 (.conv .u32 (.t 3)) 2,o1 5 (.call 157 [.t 4]) 3,o1 2 (.mv (.t 5)) 4]) .ret) .skip) (.seq (.reg 5 3 [o1 6 (.mv (.t 0)) 5,o1 7 (.call 158 [.t 6]) 6,o1 2 (.mv (.t 7)) 7]) .ret))
def rs100:List IRes:=[.tmp 2]
set_option maxRecDepth 100000 in
theorem comp100:Comp Tryz.prog 100 ir100 rs100 8:=⟨⟨_,_,8,Tryz.func100,rfl,by kernel_rfl,by kernel_rfl,rfl⟩⟩
theorem body100:HasBody Tryz.prog 100:=hasBody_of (by kernel_rfl)

def ir158:IC :=
 .seq (.reg 0 1 [o1 2 (.mv (.k (.int .i64 0))) 0]) (.seq (.seq (.reg 1 2 [o1 3 (.mv (.t 0)) 1,o1 4 (.bin .geq (.t 3) (.k (.int .u64 4294967296))) 2]) (.cond (.t 4) (.seq (.reg 3 3 [o1 5 (.mv (.t 0)) 3,o1 6 (.pur (.bin .shr 264) [.t 5, .k (.int .u64 32)]) 4,o1 0 (.mv (.t 6)) 5]) (.reg 6 1 [o1 2 (.mv (.k (.int .i64 32))) 6])) .skip)) (.seq (.seq (.reg 7 2 [o1 7 (.mv (.t 0)) 7,o1 8 (.bin .geq (.t 7) (.k (.int .u64 65536))) 8]) (.cond (.t 8) (.seq (.reg 9 3 [o1 9 (.mv (.t 0)) 9,o1 10 (.pur (.bin .shr 264) [.t 9, .k (.int .u64 16)]) 10,o1 0 (.mv (.t 10)) 11]) (.reg 12 3 [o1 11 (.mv (.t 2)) 12,o1 12 (.bin .add (.t 11) (.k (.int .i64 16))) 13,o1 2 (.mv (.t 12)) 14]))
 .skip)) (.seq (.seq (.reg 15 2 [o1 13 (.mv (.t 0)) 15,o1 14 (.bin .geq (.t 13) (.k (.int .u64 256))) 16]) (.cond (.t 14) (.seq (.reg 17 3 [o1 15 (.mv (.t 0)) 17,o1 16 (.pur (.bin .shr 264) [.t 15, .k (.int .u64 8)]) 18,o1 0 (.mv (.t 16)) 19]) (.reg 20 3 [o1 17 (.mv (.t 2)) 20,o1 18 (.bin .add (.t 17) (.k (.int .i64 8))) 21,o1 2 (.mv (.t 18)) 22])) .skip)) (.seq (.reg 23 7 [o1 19 (.mv (.t 2)) 23,o1 20 (.mv (.t 0)) 24,o1 21 (.conv .u8 (.t 20)) 25, .mk (.some
 22) (.pur (.idx 9) [.k (.string (ByteArray.mk (Array.mk [0,1,2,2,3,3,3,3,4,4,4,4,4,4,4,4,5,5,5,5,5,5,5,5,5,5,5,5,5,5,5,5,6,6,6,6,6,6,6,6,6,
 6,6,6,6,6,6,6,6,6,6,6,6,6,6,6,6,6,6,6,6,6,6,6,7,7,7,7,7,7,7,7,7,7,7,7,7,7,7,7,7,7,7,7,7,7,7,7,7,7,7,7,7,7,7,7,7,7,7,7,7,
 7,7,7,7,7,7,7,7,7,7,7,7,7,7,7,7,7,7,7,7,7,7,7,7,7,7,7,8,8,8,8,8,8,8,8,8,8,8,8,8,8,8,8,8,8,8,8,8,8,8,8,8,8,8,8,8,8,8,8,8,
 8,8,8,8,8,8,8,8,8,8,8,8,8,8,8,8,8,8,8,8,8,8,8,8,8,8,8,8,8,8,8,8,8,8,8,8,8,8,8,8,8,8,8,8,8,8,8,8,8,8,8,8,8,8,8,8,8,8,8,8,
 8,8,8,8,8,8,8,8,8,8,8,8,8,8,8,8,8,8,8,8,8,8,8,8,8,8,8,8,8,8,8,8,8,8,8]))), .t 21]) .none 26 .none .false [] .false,o1 23 (.conv .i64 (.t 22)) 27,o1 24 (.bin .add (.t 19) (.t 23)) 28,o1 2 (.mv (.t 24)) 29])
 .ret))))
def rs158:List IRes:=[.tmp 2]
set_option maxRecDepth 100000 in
theorem comp158:Comp Tryz.prog 158 ir158 rs158 25:=⟨⟨_,_,30,Tryz.func158,rfl,by kernel_rfl,by kernel_rfl,rfl⟩⟩
theorem body158:HasBody Tryz.prog 158:=hasBody_of (by kernel_rfl)

def ir133:IC :=
 .seq (.reg 0 2 [o1 1 (.box 38 (.t 0)) 0,o1 2 (.mv (.k (.bool .false))) 1]) (.seq (.reg 2 16 [o1 3 (.faddr 1 (.t 1)) 2,o1 4 (.load 1 .false (.t 3)) 3,o1 5 (.len (.t 4)) 4,o1 6 (.bin .leq (.t 5) (.k (.int .i64 10))) 5,o1 7 (.mv (.t 6)) 6, .mk (.some 8) (.faddr 0 (.t
 1)) (.some (7, .true)) 7 .none .false [] .false, .mk (.some 9) (.load 1 .false (.t 8)) (.some (7, .true)) 8 .none .false [] .false, .mk (.some 10) (.len (.t 9)) (.some (7, .true))
 9 .none .false [] .false, .mk (.some 11) (.bin .leq (.t 10) (.k (.int .i64 60))) (.some (7, .true)) 10 .none .false [] .false,o1 12 (.pick (.t 7) (.t 11) (.k (.bool .false))) 11,o1 13 (.mv (.t 12)) 12, .mk (.some 14) (.faddr 1 (.t 1)) (.some (13, .true)) 13 .none .false []
 .false, .mk (.some 15) (.load 1 .false (.t 14)) (.some (13, .true)) 14 .none .false [] .false, .mk (.some 16) (.call 134 [.t 15, .f 135]) (.some (13, .true)) 15 .none .false []
 .false,o1 17 (.pick (.t 13) (.t 16) (.k (.bool .false))) 16,o1 2 (.mv (.t 17)) 17]) .ret)
def rs133:List IRes:=[.tmp 2]
set_option maxRecDepth 100000 in
theorem comp133:Comp Tryz.prog 133 ir133 rs133 18:=⟨⟨_,_,18,Tryz.func133,rfl,by kernel_rfl,by kernel_rfl,rfl⟩⟩
theorem body133:HasBody Tryz.prog 133:=hasBody_of (by kernel_rfl)

def ir135:IC :=
 .seq (.reg 0 2 [o1 1 (.box 119 (.t 0)) 0,o1 2 (.mv (.k (.bool .false))) 1]) (.seq (.reg 2 5 [o1 3 (.faddr 4 (.t 1)) 2,o1 4 (.load 1 .false (.t 3)) 3,o1 5 (.len (.t 4)) 4,o1 6 (.bin .leq (.t 5) (.k (.int .i64 60))) 5,o1 2 (.mv (.t 6)) 6]) .ret)
def rs135:List IRes:=[.tmp 2]
set_option maxRecDepth 100000 in
theorem comp135:Comp Tryz.prog 135 ir135 rs135 7:=⟨⟨_,_,7,Tryz.func135,rfl,by kernel_rfl,by kernel_rfl,rfl⟩⟩
theorem body135:HasBody Tryz.prog 135:=hasBody_of (by kernel_rfl)

def ir136:IC :=
 .seq (.reg 0 2 [o1 1 (.box 38 (.t 0)) 0,o1 2 (.mv (.k (.bool .false))) 1]) (.seq (.reg 2 9 [o1 3 (.faddr 0 (.t 1)) 2,o1 4 (.load 1 .false (.t 3)) 3,o1 5 (.call 137 [.t 4, .f 138]) 4,o1 6 (.mv (.t 5)) 5, .mk (.some 7) (.faddr 1 (.t 1)) (.some (6, .true)) 6 .none .false [] .false, .mk (.some 8) (.load 1
 .false (.t 7)) (.some (6, .true)) 7 .none .false [] .false, .mk (.some 9) (.call 134 [.t 8, .f 139]) (.some (6, .true)) 8 .none .false [] .false,o1 10 (.pick (.t 6) (.t 9) (.k (.bool .false))) 9,o1 2 (.mv (.t 10)) 10]) .ret)
def rs136:List IRes:=[.tmp 2]
set_option maxRecDepth 100000 in
theorem comp136:Comp Tryz.prog 136 ir136 rs136 11:=⟨⟨_,_,11,Tryz.func136,rfl,by kernel_rfl,by kernel_rfl,rfl⟩⟩
theorem body136:HasBody Tryz.prog 136:=hasBody_of (by kernel_rfl)

def ir137:IC :=
 .seq (.reg 0 2 [o1 3 (.box 131 (.t 1)) 0,o1 4 (.mv (.k (.bool .false))) 1]) (.seq (.reg 2 5 [o1 5 (.mv (.t 0)) 2,o1 6 (.mkf 193 [] [.t 3]) 3,o1 7 (.call 192 [.t 5, .t 6]) 4,o1 8 (.un .not (.t 7)) 5,o1 4 (.mv (.t 8)) 6]) .ret)
def rs137:List IRes:=[.tmp 4]
set_option maxRecDepth 100000 in
theorem comp137:Comp Tryz.prog 137 ir137 rs137 9:=⟨⟨_,_,7,Tryz.func137,rfl,by kernel_rfl,by kernel_rfl,rfl⟩⟩
theorem body137:HasBody Tryz.prog 137:=hasBody_of (by kernel_rfl)

def ir138:IC :=
 .seq (.reg 0 1 [o1 2 (.mv (.k (.bool .false))) 0]) (.seq (.reg 1 9 [o1 3 (.mv (.t 0)) 1,o1 4 (.lenS (.t 3)) 2,o1 5 (.call 142 [.t 4, .k (.int .i64 1), .k (.int .i64 20)]) 3,o1 6 (.mv (.t 5)) 4, .mk (.some 7) (.mv (.t 0)) (.some (6, .true)) 5 .none .false [] .false, .mk (.some 8) (.s2b 5 (.t 7)) (.some (6, .true)) 6 .none .false [] .false,
 .mk (.some 9) (.call 194 [.t 8, .f 195]) (.some (6, .true)) 7 .none .false [] .false,o1 10 (.pick (.t 6) (.t 9) (.k (.bool .false))) 8,o1 2 (.mv (.t 10)) 9]) .ret)
def rs138:List IRes:=[.tmp 2]
set_option maxRecDepth 100000 in
theorem comp138:Comp Tryz.prog 138 ir138 rs138 11:=⟨⟨_,_,10,Tryz.func138,rfl,by kernel_rfl,by kernel_rfl,rfl⟩⟩
theorem body138:HasBody Tryz.prog 138:=hasBody_of (by kernel_rfl)

def ir139:IC :=
 .seq (.reg 0 2 [o1 1 (.box 119 (.t 0)) 0,o1 2 (.mv (.k (.bool .false))) 1]) (.seq (.reg 2 4 [o1 3 (.faddr 4 (.t 1)) 2,o1 4 (.load 1 .false (.t 3)) 3,o1 5 (.call 137 [.t 4, .f 138]) 4,o1 2 (.mv (.t 5)) 5]) .ret)
def rs139:List IRes:=[.tmp 2]
set_option maxRecDepth 100000 in
theorem comp139:Comp Tryz.prog 139 ir139 rs139 6:=⟨⟨_,_,6,Tryz.func139,rfl,by kernel_rfl,by kernel_rfl,rfl⟩⟩
theorem body139:HasBody Tryz.prog 139:=hasBody_of (by kernel_rfl)

def ir140:IC :=
 .seq (.reg 0 2 [o1 1 (.box 38 (.t 0)) 0,o1 2 (.mv (.k (.bool .false))) 1]) (.seq (.reg 2 4 [o1 3 (.faddr 1 (.t 1)) 2,o1 4 (.load 1 .false (.t 3)) 3,o1 5 (.call 134 [.t 4, .f 141]) 4,o1 2 (.mv (.t 5)) 5]) .ret)
def rs140:List IRes:=[.tmp 2]
set_option maxRecDepth 100000 in
theorem comp140:Comp Tryz.prog 140 ir140 rs140 6:=⟨⟨_,_,6,Tryz.func140,rfl,by kernel_rfl,by kernel_rfl,rfl⟩⟩
theorem body140:HasBody Tryz.prog 140:=hasBody_of (by kernel_rfl)

def ir141:IC :=
 .seq (.reg 0 2 [o1 1 (.box 119 (.t 0)) 0,o1 2 (.mv (.k (.bool .false))) 1]) (.seq (.reg 2 4 [o1 3 (.faddr 0 (.t 1)) 2,o1 4 (.load 1 .false (.t 3)) 3,o1 5 (.call 142 [.t 4, .k (.int .i64 1), .k (.int .i64 999)]) 4,o1 2 (.mv (.t 5)) 5]) .ret)
def rs141:List IRes:=[.tmp 2]
set_option maxRecDepth 100000 in
theorem comp141:Comp Tryz.prog 141 ir141 rs141 6:=⟨⟨_,_,6,Tryz.func141,rfl,by kernel_rfl,by kernel_rfl,rfl⟩⟩
theorem body141:HasBody Tryz.prog 141:=hasBody_of (by kernel_rfl)

def ir142:IC :=
 .seq (.reg 0 1 [o1 6 (.mv (.k (.bool .false))) 0]) (.seq (.reg 1 9 [o1 7 (.mv (.t 1)) 1,o1 8 (.mv (.t 0)) 2,o1 9 (.bin .leq (.t 7) (.t 8)) 3,o1 10 (.mv (.t 9)) 4,
 .mk (.some 11) (.mv (.t 0)) (.some (10, .true)) 5 .none .false [] .false, .mk (.some 12) (.mv (.t 2)) (.some (10, .true)) 6 .none .false [] .false, .mk (.some 13) (.bin .leq (.t
 11) (.t 12)) (.some (10, .true)) 7 .none .false [] .false,o1 14 (.pick (.t 10) (.t 13) (.k (.bool .false))) 8,o1 6 (.mv (.t 14)) 9]) .ret)
def rs142:List IRes:=[.tmp 6]
set_option maxRecDepth 100000 in
theorem comp142:Comp Tryz.prog 142 ir142 rs142 15:=⟨⟨_,_,10,Tryz.func142,rfl,by kernel_rfl,by kernel_rfl,rfl⟩⟩
theorem body142:HasBody Tryz.prog 142:=hasBody_of (by kernel_rfl)

theorem body143:HasBody Tryz.prog 143:=hasBody_of (by kernel_rfl)

def ir144:IC :=
 .seq (.reg 0 2 [o1 1 (.box 38 (.t 0)) 0,o1 2 (.mv (.k (.bool .false))) 1]) (.seq (.reg 2 4 [o1 4 (.load 2 .true (.t 1)) 2,o1 5 (.call 66 [.t 4]) 3,o1 3 (.alloc 176 [.map .none]) 4,o2 (.store 1 (.t 3) (.t 5)) 5]) (.seq (.reg 6 5 [o1 6 (.faddr 1 (.t 1)) 6,o1 7 (.load 1 .false (.t 6)) 7,o1 8 (.mkf 145 [] [.t 3]) 8,o1 9 (.call 134 [.t 7, .t 8]) 9,o1 2 (.mv (.t 9)) 10]) .ret))
def rs144:List IRes:=[.tmp 2]
set_option maxRecDepth 100000 in
theorem comp144:Comp Tryz.prog 144 ir144 rs144 10:=⟨⟨_,_,11,Tryz.func144,rfl,by kernel_rfl,by kernel_rfl,rfl⟩⟩
theorem body144:HasBody Tryz.prog 144:=hasBody_of (by kernel_rfl)

def ir146:IC :=
 .seq (.reg 0 2 [o1 1 (.box 38 (.t 0)) 0,o1 2 (.mv (.k (.bool .false))) 1]) (.seq (.reg 2 3 [o1 8 (.load 2 .true (.t 1)) 2,o1 9 (.call 66 [.t 8]) 3,o1 3 (.mv (.t 9)) 4]) (.seq (.reg 5 1 [o1 4 (.mv (.k (.bool .true))) 5]) (.seq .skip (.seq (.seq (.reg 6 4 [o1 10 (.faddr 1 (.t 1)) 6,o1 11 (.load 1 .false (.t 10)) 7,o1 12 (.len (.t 11)) 8,o1 13 (.mv (.k (.int .i64 0))) 9]) (.block 0 (.loop (.seq (.reg 10 1 [o1 14 (.bin .lss (.t 13) (.t 12)) 10]) (.seq (.cond (.t
 14) .skip (.exit 0)) (.seq (.block 1 (.seq (.reg 11 4 [o1 15 (.iaddr 5 (.t 11) (.t 13)) 11,o1 16 (.load 5 .true (.t 15)) 12,o1 6 (.alloc 119 [.int .i64 0, .int .i64 0, .int .i64 0, .int .i64 0, .slice .none 0 0]) 13,o2 (.store 5 (.t 6) (.t 16)) 14]) (.seq (.reg 15 1 [o1 7 (.mv (.k (.int .i64 0))) 15]) (.block 2 (.loop (.seq (.seq (.reg 16 3
 [o1 17 (.faddr 1 (.t 6)) 16,o1 18 (.load 1 .false (.t 17)) 17,o1 19 (.bin .neq (.t 18) (.k (.int .i64 0))) 18]) (.cond (.t 19) .skip (.exit 2))) (.seq (.block 3 (.seq (.reg 19 3 [o1 24 (.mv (.t 7)) 19,
 o1 25 (.bin .add (.t 24) (.k (.int .i64 1))) 20,o1 7 (.mv (.t 25)) 21]) (.seq (.reg 22 5 [o1 26 (.mv (.t 7)) 22,o1 27 (.faddr 1 (.t 1)) 23,o1 28 (.load 1 .false (.t 27)) 24,o1 29 (.len (.t 28)) 25,o1 30 (.bin .gtr (.t 26) (.t 29)) 26]) (.cond (.t 30) (.seq (.reg
 27 1 [o1 4 (.mv (.k (.bool .false))) 27]) (.exit 0)) .skip)))) (.reg 28 5 [o1 20 (.mv (.t 3)) 28,o1 21 (.faddr 1 (.t 6)) 29,o1 22 (.load 1 .false (.t 21)) 30, .mk (.some 23) (.lkp 3 (.agg (Array.mk [.int
 .i64 0, .int .i64 0, .int .i64 0, .int .i64 0, .slice .none 0 0])) .false (.t 20) (.t 22)) .none 31 .none .false [] .false,o2 (.store 5 (.t 6) (.t 23)) 32])))))))) (.reg 33 2 [o1 31 (.bin .add (.t 13) (.k (.int .i64 1))) 33,o1 13 (.mv (.t 31)) 34]))))))) (.seq (.reg 35 2 [o1 32 (.mv (.t 4)) 35,o1 2 (.mv (.t 32)) 36]) .ret)))))
def rs146:List IRes:=[.tmp 2]
set_option maxRecDepth 100000 in
theorem comp146:Comp Tryz.prog 146 ir146 rs146 33:=⟨⟨_,_,37,Tryz.func146,rfl,by kernel_rfl,by kernel_rfl,rfl⟩⟩
theorem body146:HasBody Tryz.prog 146:=hasBody_of (by kernel_rfl)

def ir147:IC :=
 .seq (.reg 0 2 [o1 1 (.box 38 (.t 0)) 0,o1 2 (.mv (.k (.bool .false))) 1]) (.seq (.reg 2 5 [o1 3 (.faddr 1 (.t 1)) 2,o1 4 (.load 1 .false (.t 3)) 3,o1 5 (.mkf 148 [] [.t 1]) 4,o1 6 (.call 134 [.t 4, .t 5]) 5,o1 2 (.mv (.t 6)) 6]) .ret)
def rs147:List IRes:=[.tmp 2]
set_option maxRecDepth 100000 in
theorem comp147:Comp Tryz.prog 147 ir147 rs147 7:=⟨⟨_,_,7,Tryz.func147,rfl,by kernel_rfl,by kernel_rfl,rfl⟩⟩
theorem body147:HasBody Tryz.prog 147:=hasBody_of (by kernel_rfl)

def ir194:IC :=
 .seq (.reg 0 2 [o1 3 (.box 276 (.t 1)) 0,o1 4 (.mv (.k (.bool .false))) 1]) (.seq (.reg 2 5 [o1 5 (.mv (.t 0)) 2,o1 6 (.mkf 230 [] [.t 3]) 3,o1 7 (.call 208 [.t 5, .t 6]) 4,o1 8 (.un .not (.t 7)) 5,o1 4 (.mv (.t 8)) 6]) .ret)
def rs194:List IRes:=[.tmp 4]
set_option maxRecDepth 100000 in
theorem comp194:Comp Tryz.prog 194 ir194 rs194 9:=⟨⟨_,_,7,Tryz.func194,rfl,by kernel_rfl,by kernel_rfl,rfl⟩⟩
theorem body194:HasBody Tryz.prog 194:=hasBody_of (by kernel_rfl)

def ir195:IC :=
 .seq (.reg 0 1 [o1 2 (.mv (.k (.bool .false))) 0]) (.seq (.reg 1 7 [o1 3 (.mv (.t 0)) 1,o1 4 (.bin .leq (.k (.int .u8 33)) (.t 3)) 2,o1 5 (.mv (.t 4)) 3, .mk (.some 6) (.mv (.t 0)) (.some (5, .true)) 4
 .none .false [] .false, .mk (.some 7) (.bin .leq (.t 6) (.k (.int .u8 126))) (.some (5, .true)) 5 .none .false [] .false,o1 8 (.pick (.t 5) (.t 7) (.k (.bool .false))) 6,o1 2 (.mv (.t 8)) 7]) .ret)
def rs195:List IRes:=[.tmp 2]
set_option maxRecDepth 100000 in
theorem comp195:Comp Tryz.prog 195 ir195 rs195 9:=⟨⟨_,_,8,Tryz.func195,rfl,by kernel_rfl,by kernel_rfl,rfl⟩⟩
theorem body195:HasBody Tryz.prog 195:=hasBody_of (by kernel_rfl)

end Go.Proofs.YtefnikpoimaiiaaGreat

namespace Go.Proofs.YtefnikpoimaiiaaGreat
open Go.Pal
def ir134:IC :=
 .seq (.reg 1 2 [o1 3 (.box 179 (.t 1)) 1,o1 4 (.mv (.k (.bool .false))) 2]) (.seq (.reg 3 5 [o1 5 (.mv (.t 0)) 3,o1 6 (.mkf 191 [] [.t 3]) 4,o1 7 (.call 190 [.t 5, .t 6]) 5,o1 8 (.un .not (.t 7)) 6,o1 4 (.mv (.t 8)) 7]) .ret)
def rs134:List IRes:=[.tmp 4]
set_option maxRecDepth 100000 in
theorem comp134:CompAt Tryz.prog 134 1 ir134 rs134 9:=⟨⟨_,_,8,Tryz.func134,rfl,by kernel_rfl,by kernel_rfl,rfl⟩⟩
theorem body134:HasBody Tryz.prog 134:=hasBody_of (by kernel_rfl)

def ir191:IC :=
 .seq (.reg 2 2 [o1 2 (.box 119 (.t 0)) 2,o1 3 (.mv (.k (.bool .false))) 3]) (.seq (.reg 4 5 [o1 4 (.load 1 .false (.t 1)) 4,o1 5 (.load 5 .true (.t 2)) 5,o1 6 (.callv (.t 4) [.t 5]) 6,o1 7 (.un .not (.t 6)) 7,o1 3 (.mv (.t 7)) 8]) .ret)
def rs191:List IRes:=[.tmp 3]
set_option maxRecDepth 100000 in
theorem comp191:CompAt Tryz.prog 191 2 ir191 rs191 8:=⟨⟨_,_,9,Tryz.func191,rfl,by kernel_rfl,by kernel_rfl,rfl⟩⟩
theorem body191:HasBody Tryz.prog 191:=hasBody_of (by kernel_rfl)

def ir190:IC :=
 .seq (.reg 2 1 [o1 4 (.mv (.k (.bool .false))) 2]) (.seq (.reg 3 5 [o1 5 (.mv (.t 0)) 3,o1 6 (.mv (.t 1)) 4,o1 7 (.call 228 [.t 5, .t 6]) 5,o1 8 (.bin .geq (.t 7) (.k (.int .i64 0))) 6,o1 4 (.mv (.t 8)) 7]) .ret)
def rs190:List IRes:=[.tmp 4]
set_option maxRecDepth 100000 in
theorem comp190:CompAt Tryz.prog 190 2 ir190 rs190 9:=⟨⟨_,_,8,Tryz.func190,rfl,by kernel_rfl,by kernel_rfl,rfl⟩⟩
theorem body190:HasBody Tryz.prog 190:=hasBody_of (by kernel_rfl)

def ir228:IC :=
 .seq (.reg 2 1 [o1 4 (.mv (.k (.int .i64 0))) 2]) (.seq (.seq (.reg 3 3 [o1 6 (.mv (.t 0)) 3,o1 7 (.len (.t 6)) 4,o1 8 (.mv (.k (.int .i64 0))) 5]) (.block 0 (.loop (.seq (.reg 6 1 [o1 9 (.bin .lss (.t 8) (.t 7)) 6]) (.seq (.cond (.t 9) .skip (.exit 0)) (.seq (.block 1 (.seq (.reg 7 2 [o1 10 (.mv (.t 8)) 7,
 o1 5 (.mv (.t 10)) 8]) (.seq (.reg 9 6 [o1 11 (.mv (.t 1)) 9,o1 12 (.mv (.t 0)) 10,o1 13 (.mv (.t 5)) 11,o1 14 (.iaddr 5 (.t 12) (.t 13)) 12,o1 15 (.load 5 .true (.t 14)) 13,o1 16 (.callv (.t 11) [.t 15]) 14]) (.cond (.t 16) (.seq (.reg 15 2 [o1 17 (.mv (.t 5)) 15,o1 4 (.mv (.t 17)) 16]) .ret) .skip)))) (.reg 17 2 [o1 18 (.bin .add (.t 8) (.k (.int .i64 1))) 17,o1 8 (.mv (.t 18)) 18]))))))) (.seq (.reg 19 1 [o1 4 (.mv (.k (.int .i64 (-1)))) 19]) .ret))
def rs228:List IRes:=[.tmp 4]
set_option maxRecDepth 100000 in
theorem comp228:CompAt Tryz.prog 228 2 ir228 rs228 19:=⟨⟨_,_,20,Tryz.func228,rfl,by kernel_rfl,by kernel_rfl,rfl⟩⟩
theorem body228:HasBody Tryz.prog 228:=hasBody_of (by kernel_rfl)

def ir193:IC :=
 .seq (.reg 1 1 [o1 3 (.mv (.k (.bool .false))) 1]) (.seq (.reg 2 5 [o1 4 (.load 1 .false (.t 1)) 2,o1 5 (.mv (.t 0)) 3,o1 6 (.callv (.t 4) [.t 5]) 4,o1 7 (.un .not (.t 6)) 5,o1 3 (.mv (.t 7)) 6]) .ret)
def rs193:List IRes:=[.tmp 3]
set_option maxRecDepth 100000 in
theorem comp193:CompAt Tryz.prog 193 1 ir193 rs193 8:=⟨⟨_,_,7,Tryz.func193,rfl,by kernel_rfl,by kernel_rfl,rfl⟩⟩
theorem body193:HasBody Tryz.prog 193:=hasBody_of (by kernel_rfl)

def ir192:IC :=
 .seq (.reg 1 1 [o1 4 (.mv (.k (.bool .false))) 1]) (.seq (.reg 2 5 [o1 5 (.mv (.t 0)) 2,o1 6 (.mv (.t 1)) 3,o1 7 (.call 229 [.t 5, .t 6]) 4,o1 8 (.bin .geq (.t 7) (.k (.int .i64 0))) 5,o1 4 (.mv (.t 8)) 6]) .ret)
def rs192:List IRes:=[.tmp 4]
set_option maxRecDepth 100000 in
theorem comp192:CompAt Tryz.prog 192 1 ir192 rs192 9:=⟨⟨_,_,7,Tryz.func192,rfl,by kernel_rfl,by kernel_rfl,rfl⟩⟩
theorem body192:HasBody Tryz.prog 192:=hasBody_of (by kernel_rfl)

def ir229:IC :=
 .seq (.reg 1 1 [o1 4 (.mv (.k (.int .i64 0))) 1]) (.seq (.seq (.reg 2 3 [o1 6 (.mv (.t 0)) 2,o1 7 (.len (.t 6)) 3,o1 8 (.mv (.k (.int .i64 0))) 4]) (.block 0 (.loop (.seq (.reg 5 1 [o1 9 (.bin .lss (.t 8) (.t 7)) 5]) (.seq (.cond (.t 9) .skip (.exit 0)) (.seq (.block 1 (.seq (.reg 6 2 [o1 10 (.mv (.t 8)) 6,
 o1 5 (.mv (.t 10)) 7]) (.seq (.reg 8 6 [o1 11 (.mv (.t 1)) 8,o1 12 (.mv (.t 0)) 9,o1 13 (.mv (.t 5)) 10,o1 14 (.iaddr 1 (.t 12) (.t 13)) 11,o1 15 (.load 1 .false (.t 14)) 12,o1 16 (.callv (.t 11) [.t 15]) 13]) (.cond (.t 16) (.seq (.reg 14 2 [o1 17 (.mv (.t 5)) 14,o1 4 (.mv (.t 17)) 15]) .ret) .skip)))) (.reg 16 2 [o1 18 (.bin .add (.t 8) (.k (.int .i64 1))) 16,o1 8 (.mv (.t 18)) 17]))))))) (.seq (.reg 18 1 [o1 4 (.mv (.k (.int .i64 (-1)))) 18]) .ret))
def rs229:List IRes:=[.tmp 4]
set_option maxRecDepth 100000 in
theorem comp229:CompAt Tryz.prog 229 1 ir229 rs229 19:=⟨⟨_,_,19,Tryz.func229,rfl,by kernel_rfl,by kernel_rfl,rfl⟩⟩
theorem body229:HasBody Tryz.prog 229:=hasBody_of (by kernel_rfl)

def ir230:IC :=
 .seq (.reg 1 1 [o1 3 (.mv (.k (.bool .false))) 1]) (.seq (.reg 2 5 [o1 4 (.load 1 .false (.t 1)) 2,o1 5 (.mv (.t 0)) 3,o1 6 (.callv (.t 4) [.t 5]) 4,o1 7 (.un .not (.t 6)) 5,o1 3 (.mv (.t 7)) 6]) .ret)
def rs230:List IRes:=[.tmp 3]
set_option maxRecDepth 100000 in
theorem comp230:CompAt Tryz.prog 230 1 ir230 rs230 8:=⟨⟨_,_,7,Tryz.func230,rfl,by kernel_rfl,by kernel_rfl,rfl⟩⟩
theorem body230:HasBody Tryz.prog 230:=hasBody_of (by kernel_rfl)

def ir208:IC :=
 .seq (.reg 1 1 [o1 4 (.mv (.k (.bool .false))) 1]) (.seq (.reg 2 5 [o1 5 (.mv (.t 0)) 2,o1 6 (.mv (.t 1)) 3,o1 7 (.call 242 [.t 5, .t 6]) 4,o1 8 (.bin .geq (.t 7) (.k (.int .i64 0))) 5,o1 4 (.mv (.t 8)) 6]) .ret)
def rs208:List IRes:=[.tmp 4]
set_option maxRecDepth 100000 in
theorem comp208:CompAt Tryz.prog 208 1 ir208 rs208 9:=⟨⟨_,_,7,Tryz.func208,rfl,by kernel_rfl,by kernel_rfl,rfl⟩⟩
theorem body208:HasBody Tryz.prog 208:=hasBody_of (by kernel_rfl)

def ir242:IC :=
 .seq (.reg 1 1 [o1 4 (.mv (.k (.int .i64 0))) 1]) (.seq (.seq (.reg 2 3 [o1 6 (.mv (.t 0)) 2,o1 7 (.len (.t 6)) 3,o1 8 (.mv (.k (.int .i64 0))) 4]) (.block 0 (.loop (.seq (.reg 5 1 [o1 9 (.bin .lss (.t 8) (.t 7)) 5]) (.seq (.cond (.t 9) .skip (.exit 0)) (.seq (.block 1 (.seq (.reg 6 2 [o1 10 (.mv (.t 8)) 6,
 o1 5 (.mv (.t 10)) 7]) (.seq (.reg 8 6 [o1 11 (.mv (.t 1)) 8,o1 12 (.mv (.t 0)) 9,o1 13 (.mv (.t 5)) 10,o1 14 (.iaddr 1 (.t 12) (.t 13)) 11,o1 15 (.load 1 .false (.t 14)) 12,o1 16 (.callv (.t 11) [.t 15]) 13]) (.cond (.t 16) (.seq (.reg 14 2 [o1 17 (.mv (.t 5)) 14,o1 4 (.mv (.t 17)) 15]) .ret) .skip)))) (.reg 16 2 [o1 18 (.bin .add (.t 8) (.k (.int .i64 1))) 16,o1 8 (.mv (.t 18)) 17]))))))) (.seq (.reg 18 1 [o1 4 (.mv (.k (.int .i64 (-1)))) 18]) .ret))
def rs242:List IRes:=[.tmp 4]
set_option maxRecDepth 100000 in
theorem comp242:CompAt Tryz.prog 242 1 ir242 rs242 19:=⟨⟨_,_,19,Tryz.func242,rfl,by kernel_rfl,by kernel_rfl,rfl⟩⟩
theorem body242:HasBody Tryz.prog 242:=hasBody_of (by kernel_rfl)

end Go.Proofs.YtefnikpoimaiiaaGreat

namespace Go.Proofs.YtefnikpoimaiiaaGreat
open Go.Pal
def ir145:IC :=
 .seq (.reg 1 2 [o1 2 (.box 119 (.t 0)) 1,o1 3 (.mv (.k (.bool .false))) 2]) (.seq (.reg 3 14 [o1 4 (.faddr 1 (.t 2)) 3,o1 5 (.load 1 .false (.t 4)) 4,o1 6 (.bin .eql (.t 5) (.k (.int .i64 0))) 5,o1 7 (.mv (.t 6)) 6, .mk (.some 8) (.load 1 .false (.t 1)) (.some (7, .false)) 7 .none .false [] .false, .mk
 (.some 9) (.faddr 1 (.t 2)) (.some (7, .false)) 8 .none .false [] .false, .mk (.some 10) (.load 1 .false (.t 9)) (.some (7, .false)) 9 .none .false [] .false, .mk (.some 11) (.lkp
 3 (.agg (Array.mk [.int .i64 0, .int .i64 0, .int .i64 0, .int .i64 0, .slice .none 0 0])) .false (.t 8) (.t 10)) (.some (7, .false)) 10 .none .false [] .false, .mk (.some 12)
 (.fld 0 1 .false (.t 11)) (.some (7, .false)) 11 .none .false [] .false, .mk (.some 13) (.faddr 1 (.t 2)) (.some (7, .false)) 12 .none .false [] .false, .mk (.some 14) (.load 1
 .false (.t 13)) (.some (7, .false)) 13 .none .false [] .false, .mk (.some 15) (.bin .eql (.t 12) (.t 14)) (.some (7, .false)) 14 .none .false [] .false,o1 16 (.pick (.t 7) (.k (.bool .true)) (.t 15)) 15,o1 3 (.mv (.t 16)) 16]) .ret)
def rs145:List IRes:=[.tmp 3]
set_option maxRecDepth 100000 in
theorem comp145:CompAt Tryz.prog 145 1 ir145 rs145 17:=⟨⟨_,_,17,Tryz.func145,rfl,by kernel_rfl,by kernel_rfl,rfl⟩⟩
theorem body145:HasBody Tryz.prog 145:=hasBody_of (by kernel_rfl)

def ir148:IC :=
 .seq (.reg 1 2 [o1 2 (.box 119 (.t 0)) 1,o1 3 (.mv (.k (.bool .false))) 2]) (.seq (.draw 3 21 [2,1] []
 [o3 4 (.faddr 2 (.t 2)) 3,o3 5 (.load 1 .false (.t 4)) 4,o3 6 (.bin .leq (.k (.int .i64 0)) (.t 5)) 5,o3 7 (.mv (.t 6)) 6, .mk (.some 8) (.faddr 2 (.t 2)) (.some (7, .true)) 7 (.some [])
 .true [] .false, .mk (.some 9) (.load 1 .false (.t 8)) (.some (7, .true)) 8 (.some []) .true [] .false, .mk (.some 10) (.faddr 3 (.t 2)) (.some (7, .true)) 9 (.some []) .true []
 .false, .mk (.some 11) (.load 1 .false (.t 10)) (.some (7, .true)) 10 (.some []) .true [] .false, .mk (.some 12) (.bin .leq (.t 9) (.t 11)) (.some (7, .true)) 11 (.some []) .true
 [] .false,o3 13 (.pick (.t 7) (.t 12) (.k (.bool .false))) 12,o3 14 (.mv (.t 13)) 13, .mk
 (.some 15) (.faddr 3 (.t 2)) (.some (14, .true)) 14 (.some []) .true [] .false, .mk (.some 16) (.load 1 .false (.t 15)) (.some (14, .true)) 15 (.some []) .true [] .false, .mk
 (.some 17) (.load 2 .true (.t 1)) (.some (14, .true)) 16 (.some []) .true [] .false, .mk (.some 18) (.faddr 1 (.t 2)) (.some (14, .true)) 17 (.some []) .true [] .false, .mk (.some
 19) (.load 1 .false (.t 18)) (.some (14, .true)) 18 (.some []) .true [] .false, .mk (.some 20) (.call 38 [.t 17, .t 19]) (.some (14, .true)) 19 (.some []) .true [] .false, .mk
 (.some 21) (.len (.t 20)) (.some (14, .true)) 20 (.some [19]) .true [] .false, .mk (.some 22) (.bin .leq (.t 16) (.t 21)) (.some (14, .true)) 21 (.some [19]) .true [] .false, .mk
 (.some 23) (.pick (.t 14) (.t 22) (.k (.bool .false))) .none 22 (.some [19]) .true [] .false, .mk (.some 3) (.mv (.t 23)) .none 23 (.some [19]) .true [] .false]) .ret)
def rs148:List IRes:=[.tmp 3]
set_option maxRecDepth 100000 in
theorem comp148:CompAt Tryz.prog 148 1 ir148 rs148 24:=⟨⟨_,_,24,Tryz.func148,rfl,by kernel_rfl,by kernel_rfl,rfl⟩⟩
theorem body148:HasBody Tryz.prog 148:=hasBody_of (by kernel_rfl)

end Go.Proofs.YtefnikpoimaiiaaGreat

namespace Go.Proofs.YtefnikpoimaiiaaGreat
open Go.Pal
def ir149:IC :=
 .seq (.reg 1 3 [o1 10 (.mv (.t 1)) 1,o1 11 (.bin .add (.t 10) (.k (.int .i64 1))) 2,o1 8 (.mv (.t 11)) 3]) (.block 0 (.loop (.seq (.seq (.reg 4 3 [o1 12 (.mv (.t 8)) 4,o1 13 (.mv (.t 2)) 5,o1 14 (.bin .lss (.t 12) (.t 13)) 6]) (.cond (.t 14) .skip (.exit 0))) (.seq (.block 1 (.seq (.reg 7 2 [o1 17 (.mv (.t 8)) 7,o1 9 (.mv (.t 17)) 8]) (.block 2 (.loop (.seq (.seq (.draw 9 17 [] [] [o3 18 (.mv (.t 9)) 9,o3 19 (.mv (.t 1)) 10,o3 20 (.bin .gtr (.t 18) (.t 19)) 11,o3 21 (.mv (.t 20)) 12, .mk (.some 22) (.mv (.t 3)) (.some (21, .true)) 13 (.some []) .true [] .false, .mk (.some 23) (.mv (.t
 0)) (.some (21, .true)) 14 (.some []) .true [] .false, .mk (.some 24) (.mv (.t 9)) (.some (21, .true)) 15 (.some []) .true [] .false, .mk (.some 25) (.iaddr 5 (.t 23) (.t 24))
 (.some (21, .true)) 16 (.some []) .true [] .false, .mk (.some 26) (.load 5 .true (.t 25)) (.some (21, .true)) 17 (.some []) .true [] .false, .mk (.some 27) (.mv (.t 0)) (.some
 (21, .true)) 18 (.some []) .true [] .false, .mk (.some 28) (.mv (.t 9)) (.some (21, .true)) 19 (.some []) .true [] .false, .mk (.some 29) (.bin .sub (.t 28) (.k (.int .i64 1)))
 (.some (21, .true)) 20 (.some []) .true [] .false, .mk (.some 30) (.iaddr 5 (.t 27) (.t 29)) (.some (21, .true)) 21 (.some []) .true [] .false, .mk (.some 31) (.load 5 .true (.t
 30)) (.some (21, .true)) 22 (.some []) .true [] .false, .mk (.some 32) (.callv (.t 22) [.t 26, .t 31]) (.some (21, .true)) 23 (.some []) .true [] .false, .mk (.some 33) (.bin .lss
 (.t 32) (.k (.int .i64 0))) (.some (21, .true)) 24 (.some [23]) .true [] .false, .mk (.some 34) (.pick (.t 21) (.t 33) (.k (.bool .false))) .none 25 (.some [23]) .true [] .false])
 (.cond (.t 34) .skip (.exit 2))) (.seq (.block 3 (.draw 26 18 [] [] [o3 37 (.mv (.t 0)) 26,o3 38 (.mv (.t 9)) 27,o3 39 (.mv (.t 0)) 28,o3 40 (.mv (.t 9)) 29,o3 41 (.bin .sub (.t 40) (.k (.int .i64 1))) 30,o3 42 (.mv (.t 0)) 31,o3 43 (.mv (.t 9)) 32,o3 44 (.bin .sub (.t 43) (.k (.int .i64 1))) 33,o3 45 (.iaddr 5 (.t 42) (.t 44)) 34,o3 46 (.load 5 .true (.t 45)) 35,o3 47 (.mv (.t 0)) 36,o3 48 (.mv (.t 9)) 37,o3 49 (.iaddr 5 (.t 47) (.t 48)) 38,o3 50 (.load 5 .true (.t 49)) 39,o3 51 (.iaddr 5 (.t 37) (.t 38)) 40,o4 (.store 5 (.t 51) (.t 46)) 41,o3 52 (.iaddr 5 (.t 39) (.t 41)) 42,o4 (.store 5 (.t 52) (.t 50)) 43])) (.reg 44 3 [o1 35 (.mv (.t 9)) 44,o1 36 (.bin .sub (.t 35) (.k (.int .i64 1))) 45,o1 9 (.mv (.t 36)) 46]))))))) (.reg 47 3 [o1 15 (.mv (.t 8)) 47,o1 16 (.bin .add (.t 15) (.k (.int .i64 1))) 48,o1 8 (.mv (.t 16)) 49])))))
def rs149:List IRes:=[]
set_option maxRecDepth 100000 in
theorem comp149:CompAt Tryz.prog 149 1 ir149 rs149 53:=⟨⟨_,_,50,Tryz.func149,rfl,by kernel_rfl,by kernel_rfl,rfl⟩⟩
theorem body149:HasBody Tryz.prog 149:=hasBody_of (by kernel_rfl)

def ir99:IC :=
 .seq (.reg 1 1 [o1 10 (.mv (.k (.bool .true))) 1]) (.seq (.reg 2 1 [o1 11 (.mv (.k (.bool .true))) 2])
 (.block 0 (.loop (.block 1 (.seq (.reg 3 4 [o1 21 (.mv (.t 2)) 3,o1 22 (.mv (.t 1)) 4,o1 23 (.bin .sub (.t 21) (.t 22)) 5,o1 12 (.mv (.t 23)) 6]) (.seq (.seq (.reg 7 2 [o1 24 (.mv (.t 12)) 7,o1 25 (.bin .leq (.t 24) (.k (.int .i64 12))) 8]) (.cond (.t 25) (.seq (.reg 9 5 [o1 26 (.mv (.t 0)) 9,o1 27 (.mv (.t 1)) 10,o1 28 (.mv (.t 2)) 11,o1 29 (.mv (.t 4)) 12,o1 30 (.call 149 [.t 26, .t 27, .t 28, .t 29]) 13]) .ret) .skip)) (.seq (.seq (.reg 14 2 [o1 31 (.mv (.t 3)) 14,o1 32 (.bin .eql (.t 31) (.k (.int .i64 0))) 15]) (.cond (.t 32) (.seq (.reg 16 5 [o1 33 (.mv (.t 0)) 16,o1 34 (.mv (.t 1)) 17,o1 35 (.mv (.t 2)) 18,o1 36 (.mv (.t 4)) 19,o1 37 (.call 150 [.t 33, .t 34, .t 35, .t 36]) 20]) .ret) .skip)) (.seq (.seq (.reg
 21 2 [o1 38 (.mv (.t 10)) 21,o1 39 (.un .not (.t 38)) 22]) (.cond (.t 39) (.seq (.reg 23 5 [o1 40 (.mv (.t 0)) 23,o1 41 (.mv (.t 1)) 24,o1 42 (.mv (.t 2)) 25,o1 43 (.mv (.t 4)) 26,o1 44 (.call 151 [.t 40, .t 41, .t 42, .t 43]) 27]) (.reg 28 3 [o1 45 (.mv (.t 3)) 28,o1 46 (.bin .sub (.t 45) (.k (.int .i64 1))) 29,o1 3 (.mv (.t 46)) 30])) .skip)) (.seq (.reg 31 10 [o1 48 (.mv (.t 0)) 31,o1 49 (.mv (.t 1)) 32,o1 50 (.mv (.t 2)) 33,o1 51 (.mv (.t 4)) 34,o1 52 (.call 152 [.t 48, .t 49, .t 50, .t 51]) 35,o1 47 (.mv (.t 52)) 36,o1 53 (.ext (.t 47) 0) 37,o1 54 (.ext (.t 47) 1) 38,o1 13 (.mv (.t 53)) 39,o1 14 (.mv (.t 54)) 40]) (.seq (.seq (.reg 41
 2 [o1 55 (.mv (.t 14)) 41,o1 56 (.bin .eql (.t 55) (.k (.int .i64 2))) 42]) (.cond (.t 56) (.seq (.reg
 43 5 [o1 57 (.mv (.t 0)) 43,o1 58 (.mv (.t 1)) 44,o1 59 (.mv (.t 2)) 45,o1 60 (.mv (.t 4)) 46,o1 61 (.call 153 [.t 57, .t 58, .t 59, .t 60]) 47]) (.seq (.reg 48 7
 [o1 62 (.mv (.t 2)) 48,o1 63 (.bin .sub (.t 62) (.k (.int .i64 1))) 49,o1 64 (.mv (.t 13)) 50,o1 65 (.mv (.t 1)) 51,o1 66 (.bin .sub (.t 64) (.t 65)) 52,o1 67 (.bin .sub (.t 63) (.t 66)) 53,o1 13 (.mv (.t 67)) 54]) (.reg 55 1 [o1 14 (.mv (.k (.int .i64 1))) 55]))) .skip)) (.seq (.seq (.reg 56 8 [o1 68 (.mv (.t 10)) 56,o1 69 (.mv (.t 68)) 57, .mk (.some 70) (.mv (.t 11)) (.some (69, .true)) 58 .none .false [] .false,o1 71 (.pick (.t 69) (.t 70) (.k (.bool .false))) 59,o1 72 (.mv (.t 71)) 60, .mk (.some 73) (.mv (.t 14)) (.some (72, .true)) 61 .none .false [] .false, .mk (.some 74) (.bin
 .eql (.t 73) (.k (.int .i64 1))) (.some (72, .true)) 62 .none .false [] .false,o1 75 (.pick (.t 72) (.t 74) (.k (.bool .false))) 63]) (.cond
 (.t 75) (.seq (.reg 64 5 [o1 76 (.mv (.t 0)) 64,o1 77 (.mv (.t 1)) 65,o1 78 (.mv (.t 2)) 66,o1 79 (.mv (.t 4)) 67,o1 80 (.call 154 [.t 76, .t 77, .t 78, .t 79]) 68]) (.cond (.t 80) .ret .skip)) .skip)) (.seq (.seq (.draw 69 17 [] [] [o3 81 (.mv (.t 1)) 69,o3 82 (.bin .gtr (.t 81) (.k (.int .i64 0))) 70,o3 83 (.mv (.t 82)) 71, .mk (.some 84) (.mv (.t 4)) (.some (83, .true)) 72 (.some
 []) .true [] .false, .mk (.some 85) (.mv (.t 0)) (.some (83, .true)) 73 (.some []) .true [] .false, .mk (.some 86) (.mv (.t 1)) (.some (83, .true)) 74 (.some []) .true [] .false,
 .mk (.some 87) (.bin .sub (.t 86) (.k (.int .i64 1))) (.some (83, .true)) 75 (.some []) .true [] .false, .mk (.some 88) (.iaddr 5 (.t 85) (.t 87)) (.some (83, .true)) 76 (.some
 []) .true [] .false, .mk (.some 89) (.load 5 .true (.t 88)) (.some (83, .true)) 77 (.some []) .true [] .false, .mk (.some 90) (.mv (.t 0)) (.some (83, .true)) 78 (.some []) .true
 [] .false, .mk (.some 91) (.mv (.t 13)) (.some (83, .true)) 79 (.some []) .true [] .false, .mk (.some 92) (.iaddr 5 (.t 90) (.t 91)) (.some (83, .true)) 80 (.some []) .true []
 .false, .mk (.some 93) (.load 5 .true (.t 92)) (.some (83, .true)) 81 (.some []) .true [] .false, .mk (.some 94) (.callv (.t 84) [.t 89, .t 93]) (.some (83, .true)) 82 (.some [])
 .true [] .false, .mk (.some 95) (.bin .lss (.t 94) (.k (.int .i64 0))) (.some (83, .true)) 83 (.some [82]) .true [] .false, .mk (.some 96) (.un .not (.t 95)) (.some (83, .true))
 84 (.some [82]) .true [] .false, .mk (.some 97) (.pick (.t 83) (.t 96) (.k (.bool .false))) .none 85 (.some [82]) .true [] .false]) (.cond (.t 97) (.seq (.reg 86 7 [o1 98 (.mv (.t 0)) 86,o1 99 (.mv (.t 1)) 87,o1 100 (.mv (.t 2)) 88,o1 101 (.mv (.t 13)) 89,o1 102 (.mv (.t 4)) 90,o1 103 (.call 155 [.t 98, .t 99, .t 100, .t 101, .t 102]) 91,o1 15 (.mv (.t 103)) 92]) (.seq (.reg 93 2 [o1 104 (.mv (.t 15)) 93,o1 1 (.mv (.t 104)) 94]) (.exit 1))) .skip)) (.seq (.reg 95 11 [o1 106 (.mv (.t 0)) 95,o1 107 (.mv (.t 1)) 96,o1 108 (.mv (.t 2)) 97,o1 109 (.mv (.t 13)) 98,o1 110 (.mv (.t 4)) 99,o1 111 (.call 156 [.t 106, .t 107, .t 108, .t 109, .t 110]) 100,o1 105 (.mv (.t 111)) 101,o1 112 (.ext (.t 105) 0) 102,o1 113 (.ext (.t 105) 1) 103,o1 16 (.mv (.t 112)) 104,o1 17 (.mv (.t 113)) 105]) (.seq (.reg 106 2 [o1 114 (.mv (.t 17)) 106,o1 11 (.mv (.t 114)) 107]) (.seq (.reg 108 8 [o1 115 (.mv (.t 16)) 108,o1 116 (.mv (.t 1)) 109,o1 117 (.bin .sub (.t 115) (.t 116)) 110,o1 118 (.mv (.t 2)) 111,o1 119 (.mv (.t 16)) 112,o1 120 (.bin .sub (.t 118) (.t 119)) 113,o1 18 (.mv (.t 117)) 114,o1 19 (.mv (.t 120)) 115]) (.seq (.reg 116 3 [o1 121 (.mv (.t 12)) 116,o1 122 (.bin .quo (.t 121) (.k (.int .i64 8))) 117,o1 20 (.mv (.t 122)) 118]) (.seq (.reg 119 3 [o1 123 (.mv (.t 18)) 119,o1 124 (.mv (.t 19)) 120,o1 125 (.bin .lss (.t 123) (.t 124)) 121]) (.cond (.t 125) (.seq (.reg 122 4 [o1 126 (.mv (.t 18)) 122,o1 127 (.mv (.t 20)) 123,o1 128 (.bin .geq (.t 126) (.t 127)) 124,o1 10 (.mv (.t 128)) 125]) (.seq (.reg 126 6 [o1 129 (.mv (.t 0)) 126,o1 130 (.mv (.t 1)) 127,o1 131 (.mv (.t 16)) 128,o1 132 (.mv (.t 3)) 129,o1 133 (.mv (.t 4)) 130,o1 134 (.call 99 [.t 129, .t 130, .t 131, .t 132, .t 133]) 131]) (.reg 132 3 [o1 135 (.mv (.t 16)) 132,o1 136 (.bin .add (.t 135) (.k (.int .i64 1))) 133,o1 1 (.mv (.t 136)) 134]))) (.seq (.reg 135
 4 [o1 137 (.mv (.t 19)) 135,o1 138 (.mv (.t 20)) 136,o1 139 (.bin .geq (.t 137) (.t 138)) 137,o1 10 (.mv (.t 139)) 138]) (.seq (.reg 139 7 [o1 140 (.mv (.t 0)) 139,o1 141 (.mv (.t 16)) 140,o1 142 (.bin .add (.t 141) (.k (.int .i64 1))) 141,o1 143 (.mv (.t 2)) 142,o1 144 (.mv (.t 3)) 143,o1 145 (.mv (.t 4)) 144,o1 146 (.call 99 [.t 140, .t 142, .t 143, .t 144, .t 145]) 145]) (.reg 146 2 [o1 147 (.mv (.t 16)) 146,o1 2 (.mv (.t 147)) 147])))))))))))))))))))))
def rs99:List IRes:=[]
set_option maxRecDepth 100000 in
theorem comp99:CompAt Tryz.prog 99 1 ir99 rs99 148:=⟨⟨_,_,148,Tryz.func99,rfl,by kernel_rfl,by kernel_rfl,rfl⟩⟩
theorem body99:HasBody Tryz.prog 99:=hasBody_of (by kernel_rfl)

def ir69:IC :=
 .seq (.reg 1 3 [o1 5 (.mv (.t 0)) 1,o1 6 (.len (.t 5)) 2,o1 4 (.mv (.t 6)) 3]) (.reg 4 7 [o1 7 (.mv (.t 0)) 4,o1 8 (.mv (.t 4)) 5,o1 9 (.mv (.t 4)) 6,o1 10 (.conv .u64 (.t 9)) 7,o1 11 (.call 100 [.t 10]) 8,o1 12 (.mv (.t 1)) 9,o1 13 (.call 99 [.t 7, .k (.int .i64 0), .t 8, .t 11, .t 12]) 10])
def rs69:List IRes:=[]
set_option maxRecDepth 100000 in
theorem comp69:CompAt Tryz.prog 69 1 ir69 rs69 14:=⟨⟨_,_,11,Tryz.func69,rfl,by kernel_rfl,by kernel_rfl,rfl⟩⟩
theorem body69:HasBody Tryz.prog 69:=hasBody_of (by kernel_rfl)

end Go.Proofs.YtefnikpoimaiiaaGreat

namespace Go.Proofs.YtefnikpoimaiiaaGreat
open Go.Pal
def ir10:IC :=
 .seq (.reg 2500 2 [o1 1 (.box 25 (.t 0)) 2500,o1 2 (.alloc 38 [.slice .none 0 0, .slice .none 0 0]) 2501]) (.seq (.reg 2502 7 [o1 6 (.bsl 9 1 0 [] []) 2502,o1 7 (.faddr 0 (.t 1)) 2503,o1 8 (.load 1 .false (.t 7)) 2504,o1 9 (.app 9 1 16 (.t 6) (.t 8)) 2505,o1 10 (.bld [(0,1),(1,1)] [.slice .none 0 0, .slice .none 0 0] [(0, .t 9)]) 2506,o1 3 (.alloc 38 [.slice .none 0 0, .slice .none 0 0]) 2507,o2 (.store 2 (.t 3) (.t 10)) 2508]) (.seq (.seq (.reg 2509 1 [o1 4 (.mv (.k (.int .i64 0))) 2509]) (.block 0 (.loop (.seq (.seq (.reg 2510 5 [o1 11 (.mv (.t 4)) 2510,o1 12 (.faddr 1 (.t 1)) 2511,o1 13 (.load 1 .false (.t 12)) 2512,o1 14 (.len (.t 13)) 2513,o1 15 (.bin .lss (.t 11) (.t 14)) 2514]) (.cond (.t 15) .skip (.exit 0))) (.seq (.block 1 (.seq (.reg 2515 7 [o1 18 (.faddr 1 (.t 1)) 2515,o1 19 (.load 1 .false (.t 18)) 2516,o1 20 (.mv (.t 4)) 2517,o1 21 (.iaddr 5 (.t 19) (.t 20)) 2518,o1 22 (.load 5 .true (.t 21)) 2519,o1 5 (.alloc 42 [.int .i64 0, .int .i64 0, .int .i64 0, .int .i64 0, .slice .none 0 0]) 2520,o2 (.store 5 (.t 5) (.t 22)) 2521]) (.drawd 2522 19 [] [] [] [.none,
 .some [3], .none, .some [5], .none, .some [5], .none, .some [5], .none, .some [5], .none, .none, .some [5], .none, .none, .none, .none, .none, .some [3]] [(0,o3 23 (.faddr 1 (.t 3)) 2522),(1, .mk (.some 24) (.load 1 .false (.t 23)) .none 2523 (.some []) .true [0] .false),(2,o3 25 (.faddr 0 (.t 5)) 2524),(3, .mk (.some 26) (.load 1 .false (.t 25)) .none 2525 (.some []) .true [2] .false),(4,o3 27 (.faddr 1 (.t 5)) 2526),(5, .mk (.some 28) (.load 1 .false (.t 27)) .none 2527 (.some []) .true [4] .false),(6,o3 29 (.faddr 2 (.t 5)) 2528),(7, .mk (.some 30) (.load 1 .false (.t 29)) .none 2529 (.some []) .true [6] .false),(8,o3 31 (.faddr 3 (.t 5)) 2530),(9, .mk
 (.some 32) (.load 1 .false (.t 31)) .none 2531 (.some []) .true [8] .false),(10, .mk (.some 33) (.bslh 9 1 0 [] []) .none 2532 (.some [0]) .true [] .true),(11,o3 34 (.faddr 4 (.t 5)) 2533),(12, .mk (.some 35) (.load 1 .false (.t 34)) .none 2534 (.some []) .true [11] .false),(13, .mk (.some 36) (.apph 9 1 16
 (.t 33) (.t 35)) .none 2535 (.some [0]) .true [11,12,10] .true),(14, .mk (.some 37) (.bld [(0,1),(1,1),(2,1),(3,1),(4,1)] [.int .i64 0, .int .i64 0, .int .i64 0, .int
 .i64 0, .slice .none 0 0] [(0, .t 26),(1, .t 28),(2, .t 30),(3, .t 32),(4, .t 36)]) .none 2536 (.some []) .true [10,12,11,13,8,9,6,7,4,5,2,3] .false),(15, .mk
 (.some 38) (.bslh 119 5 1 [.int .i64 0, .int .i64 0, .int .i64 0, .int .i64 0, .slice .none 0 0] [(0, .t 37)]) .none 2537 (.some [0]) .true [3,2,5,4,7,6,9,8,13,11,12,
 10,14] .true),(16, .mk (.some 39) (.apph 119 5 56 (.t 24) (.t 38)) .none 2538 (.some [0]) .true [14,10,12,11,13,8,9,6,7,4,5,2,3,15,0,1] .true),(17, .mk (.some
 40) (.faddr 1 (.t 3)) .none 2539 (.some []) .true [16,15,14,13,12,11,10,9,8,7,6,5,4,3,2,1,0] .false),(18, .mk .none (.store 1 (.t 40) (.t 39)) .none 2540 (.some
 []) .true [0,1,2,3,4,5,6,7,8,9,10,11,12,13,14,15,16,17] .false)]))) (.reg 2541 3 [o1 16 (.mv (.t 4)) 2541,o1 17 (.bin .add (.t 16) (.k (.int .i64 1))) 2542,o1 4 (.mv (.t 17)) 2543])))))) (.seq (.reg 2544 2 [o1 41 (.load 2 .true (.t 3)) 2544,o2 (.store 2 (.t 2) (.t 41)) 2545]) .ret)))
def rs10:List IRes:=[.cell 2 2 .true]
set_option maxRecDepth 100000 in
theorem comp10:CompAt Tryz.prog 10 2500 ir10 rs10 42:=⟨⟨_,_,2546,Tryz.func10,rfl,by kernel_rfl,by kernel_rfl,rfl⟩⟩
theorem body10:HasBody Tryz.prog 10:=hasBody_of (by kernel_rfl)

end Go.Proofs.YtefnikpoimaiiaaGreat

namespace Go.Proofs.YtefnikpoimaiiaaGreat
open Go.Pal
def ir39:IC :=
 .block 0 (.loop (.seq (.seq (.reg 7 3 [o1 7 (.load 1 .false (.t 1)) 7,o1 8 (.mv (.t 0)) 8,o1 9 (.bin .lss (.t 7) (.t 8)) 9]) (.cond (.t 9) .skip (.exit 0))) (.seq (.block 1 (.drawd 10 15 [] [] [] [.some [2], .some [3], .some [1], .none, .none,
 .none, .none, .some [4], .some [5], .some [1], .none, .none, .none, .some [2], .some [4]] [(0,o3 12 (.load 1 .false (.t 2)) 10),(1,o3 13 (.load 1 .false (.t 3)) 11),(2,o3 14 (.load 1 .false (.t 1)) 12),(3, .mk (.some 15)
 (.iaddr 1 (.t 13) (.t 14)) .none 13 (.some []) .true [2,1] .false),(4, .mk (.some 16) (.load 1 .false (.t 15)) .none 14 (.some []) .true [1,2,3] .false),(5, .mk (.some 17)
 (.bsl 9 1 1 [.string (ByteArray.mk (Array.mk []))] [(0, .t 16)]) .none 15 (.some []) .true [3,2,1,4] .false),(6, .mk (.some 18) (.app 9 1 16 (.t 12) (.t 17)) .none 16 (.some
 [15]) .true [4,1,2,3,5,0] .false),(7,o3 19 (.load 1 .false (.t 4)) 17),(8,o3 20 (.load 1 .false (.t 5)) 18),(9,o3 21 (.load 1 .false (.t 1)) 19),(10, .mk (.some 22) (.bld [(0,1),(1,1)] [.int .i64 0, .int .i64 0] [(0,
 .t 20),(1, .t 21)]) .none 20 (.some []) .true [9,8] .false),(11, .mk (.some 23) (.bsl 115 2 1 [.int .i64 0, .int .i64 0] [(0, .t 22)]) .none 21 (.some []) .true [8,9,10]
 .false),(12, .mk (.some 24) (.app 115 2 16 (.t 19) (.t 23)) .none 22 (.some [15,16,21]) .true [0,5,3,2,1,4,6,10,9,8,11,7] .false),(13, .mk .none (.store 1 (.t 2)
 (.t 18)) .none 23 (.some [21,22,15,16]) .true [7,11,8,9,10,12,0,5,3,2,1,4,6] .false),(14, .mk .none (.store 1 (.t 4) (.t 24)) .none 24 (.some [21,16,15,22])
 .true [13,7,11,8,9,10,6,4,1,2,3,5,0,12] .false)])) (.reg 25 3 [o1 10 (.load 1 .false (.t 1)) 25,o1 11 (.bin .add (.t 10) (.k (.int .i64 1))) 26,o2 (.store 1 (.t 1) (.t 11)) 27]))))
def rs39:List IRes:=[]
set_option maxRecDepth 100000 in
theorem comp39:CompAt Tryz.prog 39 7 ir39 rs39 25:=⟨⟨_,_,28,Tryz.func39,rfl,by kernel_rfl,by kernel_rfl,rfl⟩⟩
theorem body39:HasBody Tryz.prog 39:=hasBody_of (by kernel_rfl)

end Go.Proofs.YtefnikpoimaiiaaGreat

namespace Go.Proofs.YtefnikpoimaiiaaGreat
open Go.Pal
def ir37:IC :=
 .seq (.reg 1000 1 [o1 6 (.box 3 (.t 0)) 1000]) (.seq (.reg 1001 7 [o1 11 (.load 2 .true (.t 1)) 1001,o1 12 (.load 1 .false (.t 6)) 1002,o1 13 (.call 38 [.t 11, .t 12]) 1003,o1 7 (.alloc 22 [.slice .none 0 0]) 1004,o1 8 (.alloc 3 [.int .i64 0]) 1005,o2 (.store 1 (.t 7) (.t 13)) 1006,o2 (.store 1 (.t 8) (.k (.int .i64 0))) 1007]) (.seq (.reg 1008 3 [o1 14 (.mkf 39 [] [.t 8, .t 2, .t 7, .t 3, .t 6]) 1008,o1 9 (.alloc 112 [.nilFunc]) 1009,o2 (.store 1 (.t 9) (.t 14)) 1010])
 (.seq (.seq (.reg 1011 3 [o1 15 (.load 2 .true (.t 1)) 1011,o1 16 (.load 1 .false (.t 6)) 1012,o1 17 (.call 40 [.t 15, .t 16]) 1013]) (.block 0 (.range (.t 17) [18] (.reg 1014 2 [o1 10 (.alloc 119 [.int .i64 0, .int .i64 0, .int .i64 0, .int .i64 0, .slice .none 0 0]) 1014,o2 (.store 5 (.t 10) (.t 18)) 1015]) (.block 1 (.seq (.reg 1016 4
 [o1 19 (.load 1 .false (.t 4)) 1016,o1 20 (.faddr 0 (.t 10)) 1017,o1 21 (.load 1 .false (.t 20)) 1018,o1 22 (.call 41 [.t 19, .t 21]) 1019]) (.cond (.t 22) (.seq (.reg 1020 4 [o1 23 (.load 1 .false (.t 9)) 1020,o1 24 (.faddr 2 (.t 10)) 1021,o1 25 (.load 1 .false (.t 24)) 1022,o1 26 (.callv (.t 23) [.t 25]) 1023]) (.seq (.reg 1024 4 [o1 27 (.load 1 .false (.t 5)) 1024,o1 28 (.faddr 0 (.t 10)) 1025,o1 29 (.load 1 .false (.t 28)) 1026,o1 30 (.callv (.t 27) [.t 29]) 1027]) (.reg 1028 3 [o1 31 (.faddr 3 (.t 10)) 1028,o1 32 (.load 1 .false (.t 31)) 1029,o2 (.store 1 (.t 8) (.t 32)) 1030]))) .skip)))))) (.reg 1031 4 [o1 33 (.load 1 .false (.t 9)) 1031,o1 34 (.load 1 .false (.t 7)) 1032,o1 35 (.len (.t 34)) 1033,o1 36 (.callv (.t 33) [.t 35]) 1034]))))
def rs37:List IRes:=[]
set_option maxRecDepth 100000 in
theorem comp37:CompAt Tryz.prog 37 1000 ir37 rs37 37:=⟨⟨_,_,1035,Tryz.func37,rfl,by kernel_rfl,by kernel_rfl,rfl⟩⟩
theorem body37:HasBody Tryz.prog 37:=hasBody_of (by kernel_rfl)

end Go.Proofs.YtefnikpoimaiiaaGreat

namespace Go.Proofs.YtefnikpoimaiiaaGreat
open Go.Pal
def ir9:IC :=
 .seq (.reg 0 5 [o1 2 (.box 38 (.t 0)) 0,o1 3 (.box 30 (.t 1)) 1,o1 4 (.alloc 22 [.slice .none 0 0]) 2,o1 5 (.alloc 32 [.slice .none 0 0]) 3,o1 6 (.mv (.k (.int .i64 0))) 4]) (.seq (.seq (.reg 5 4 [o1 9 (.load 2 .true (.t 2)) 5,o1 10 (.load 1 .false (.t 3)) 6,o1 11 (.call 36 [.t 9, .t 10]) 7,o1 7 (.mv (.t 11)) 8]) (.seq (.reg 9 2 [o1 12 (.mv (.t 7)) 9,o1 13 (.bin .neq (.t 12) (.k (.int .i64 0))) 10]) (.cond (.t 13) (.seq (.reg 11 4 [o1 14 (.mv (.t 7)) 11,o2 (.store 1 (.t 4) (.k (.slice .none 0 0))) 12,o2 (.store 1 (.t 5) (.k (.slice .none 0 0))) 13,o1 6 (.mv (.t 14)) 14]) .ret) .skip))) (.seq (.reg 15 1 [o1 8 (.alloc 112 [.nilFunc]) 15]) (.seq (.reg 16 2 [o1 15 (.mkf 37 [] [.t 2, .t 4, .t 5, .t 3, .t 8]) 16,o2 (.store 1 (.t 8) (.t 15)) 17]) (.seq (.reg 18 2 [o1 16 (.load 1 .false (.t 8)) 18,o1 17 (.callv (.t 16) [.k (.int .i64 0)]) 19]) (.seq (.drawd 20 5 [] [] [] [.some [4], .some [5], .some [4], .some [5], .none] [(0,o3 18 (.load 1 .false (.t 4)) 20),(1,o3 19 (.load 1 .false (.t 5)) 21),(2, .mk .none (.store 1 (.t 4) (.t 18)) .none 22 (.some []) .true [0] .false),(3, .mk .none (.store 1 (.t
 5) (.t 19)) .none 23 (.some []) .true [0,2,1] .false),(4, .mk (.some 6) (.mv (.k (.int .i64 0))) .none 24 (.some []) .true [1,2,0,3] .false)]) .ret)))))
def rs9:List IRes:=[.cell 4 1 .false, .cell 5 1 .false, .tmp 6]
set_option maxRecDepth 100000 in
theorem comp9:Comp Tryz.prog 9 ir9 rs9 20:=⟨⟨_,_,25,Tryz.func9,rfl,by kernel_rfl,by kernel_rfl,rfl⟩⟩
theorem body9:HasBody Tryz.prog 9:=hasBody_of (by kernel_rfl)

end Go.Proofs.YtefnikpoimaiiaaGreat
