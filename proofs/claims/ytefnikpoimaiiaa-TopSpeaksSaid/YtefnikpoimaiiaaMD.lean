/- Functions to which own blocks are lent: from what is asked of their code to their contracts. The intermediate forms of functions of the program (printed by a program of mine), each checked against the code. The intermediate forms of functions of the program (printed by a program of mine), each checked against the code. The intermediate forms of functions of the program (printed by a program of mine), each checked against the code. TopSpeaks: of the takes: the intermediate forms of functions of the program (printed by a program of mine), each checked against the code. Contracts with a ghost; published slices: lemmas for their use. Readings of values, typed; contracts by them. Who speaks: scenes, parts and states (plain). Keys of maps: a key is found, or it is not there. Functions whose results bear function values in rows or structs: own blocks may be published at their end. Equality of structs of two numbers. Equality of arrays of truth values. The drawn values: how each type is read; the frame of a row that says 'it returns true, and the arguments read as before'. What a contract says of published rows is said of rows that are lent, too, where the callee does not change them. -/
import Derived.Test.YtefnikpoimaiiaaMC
import Derived.Test.YtefnikpoimaiiaaProg
import Derived.KernelRfl
import Derived.WalkSpells
import Derived.DeepKeys3
import Derived.WalkLawsBesides
import Derived.ChangeKeysEq
import Derived.ProofKit
import Derived.Deep.Slices
import Derived.Deep.Fields
import Derived.ChangeSame
import Derived.Lib.SmallJoins
import Derived.OpenShut
import Derived.ChangeOld
import Derived.Below
set_option linter.unusedSimpArgs false
set_option linter.unusedVariables false
namespace Go.Pal
open Go.RowKit

def LE.val (x:LE):Value:=match x.lb with
 | .cells _ _=>.pointer (some ⟨x.b,0,none⟩)
 | .map _ _=>.map (some x.b)
 | .row _ n cap _ _ _ _=>.slice (some ⟨x.b,0,none⟩) n cap
def lentE (ls:List LE) (i:Nat):Value:=match ls[i]? with
 | some x=>x.val
 | none=>undef

def relArgs (E:Nat→Value) (m:Nat):List SV→List Value→Prop
 | [],[]=>True
 | sv :: svs,v :: vs=>sv.rel E v∧sv.ment (· < m)∧relArgs E m svs vs
 | _,_=>False
def lookSV:List SV→Nat→SV
 | [],_=>.c .any
 | x :: r,i=>match i with
  | 0=>x
  | i + 1=>lookSV r i
def lookOB:List OB→Nat→Option OB
 | [],_=>none
 | x :: r,i=>match i with
  | 0=>some x
  | i + 1=>lookOB r i
def obOk (E:Nat→Value) (m:Nat) (x:LE) (ob:OB):Prop:=match x.lb with
 | .cells vs t=>∃ cs,ob = .cells (.named x.b) cs t∧relL E cs vs∧∀ c∈cs,c.ment (· < m)
 | .map es c=>ob = .map (.named x.b) es c
 | .row _ n cap vs rest t k=>ob = .xrow x.b n cap vs rest t k
theorem obOk_has {E:Nat→Value} {m:Nat} {x:LE} {ob:OB} (h:obOk E m x ob) {v:Value} {b:Nat} (e:ob.has v b):blkOf v = some b:=by
 obtain ⟨xb,w,lb⟩:=x
 cases lb with
 | cells vs t=>obtain ⟨cs,rfl,_⟩:=h;exact e
 | map es c=>have h:ob = .map (.named xb) es c:=h;subst h;exact e
 | row n0 n cap vs rest t k=>have h:ob = .xrow xb n cap vs rest t k:=h;subst h;exact e
def obsOk (E:Nat→Value) (m:Nat):List LE→List OB→Prop
 | [],[]=>True
 | x :: r,ob :: obs=>obOk E m x ob∧obsOk E m r obs
 | _,_=>False
def finL (H:Nat→Option OB):Nat→List LE→List LB→Prop
 | _,[],ns=>ns = []
 | i,x :: r,ns=>∃ n:LB,(match n with
   | .cells vs t=>∃ cs,H i = some (.cells (.named x.b) cs t)∧toValsH H cs = some vs
   | .map es c=>H i = some (.map (.named x.b) es c)
   | .row n0 n cap vs rest t k=>H i = some (.xrow x.b n cap vs rest t k)∧n0≤n)∧x.lb.alike n ∧
   match x.w with
   | true=>∃ ns',ns = n :: ns'∧finL H (i + 1) r ns'
   | false=>n = x.lb∧finL H (i + 1) r ns

structure FinS (H:Nat→Option OB) (ls:List LE) (K:List LB→Prop):Prop where
 ex:∃ ns,finL H 0 ls ns∧K ns
def finS (rs:List IRes) (σ:St) (ls:List LE) (K:Value→List LB→Hp→Prop):Prop:=resF rs σ fun vs H G=>FinS H ls fun ns=>K (wrapV vs) ns G

structure CompAt (P:Program) (f:FuncId) (m:Nat) (ic:IC) (rs:List IRes) (nt:Nat):Prop where
 ex:∃ fn c b2,P.funcs[f]? = some fn∧fn.body = some c∧compC P fn.ntmps c m = some (ic,b2)∧compRes P fn.results.toList = some rs∧fn.ntmps = nt

section
variable {P:Program} {W:World} {G:Hp} {ls:List LE}

theorem relArgs_look {E:Nat→Value} {m:Nat}:∀ {svs:List SV} {args:List Value},relArgs E m svs args→∀ i,(lookSV svs i).rel E (args[i]?.getD undef)∧(lookSV svs i).ment (· < m)
 | [],[],_,i=>⟨trivial,trivial⟩
 | sv :: svs,v :: vs,h,0=>⟨h.1,h.2.1⟩
 | sv :: svs,v :: vs,h,i + 1=>by simpa [lookSV] using relArgs_look h.2.2 i
 | [],_ :: _,h,_=>h.elim
 | _ :: _,[],h,_=>h.elim
theorem obsOk_look {E:Nat→Value} {m:Nat}:∀ {ls:List LE} {obs:List OB},obsOk E m ls obs→∀ i ob,lookOB obs i = some ob→∃ x,ls[i]? = some x∧obOk E m x ob
 | [],[],_,i,ob,e=>by cases e
 | x :: ls,o :: obs,h,0,ob,e=>by cases e;exact ⟨x,rfl,h.1⟩
 | x :: ls,o :: obs,h,i + 1,ob,e=>by
  obtain ⟨y,h1,h2⟩:=obsOk_look h.2 i ob e
  exact ⟨y,by simpa using h1,h2⟩
 | [],_ :: _,h,_,_,_=>h.elim
 | _ :: _,[],h,_,_,_=>h.elim

theorem finL_spec {H:Nat→Option OB}:∀ {ls:List LE} {i:Nat} {ns:List LB},finL H i ls ns→∀ j x,ls[j]? = some x→∃ n:LB,(match n with
   | .cells vs t=>∃ cs,H (i + j) = some (.cells (.named x.b) cs t)∧toValsH H cs = some vs
   | .map es c=>H (i + j) = some (.map (.named x.b) es c)
   | .row n0 n cap vs rest t k=>H (i + j) = some (.xrow x.b n cap vs rest t k)∧n0≤n)∧(x.w = false→n = x.lb)
 | [],i,ns,_,j,x,e=>by simp at e
 | y :: r,i,ns,h,j,x,e=>by
  obtain ⟨n,h1,h2,h3⟩:=h
  cases j with
  | zero =>
   simp only [List.getElem?_cons_zero,Option.some.injEq] at e
   subst e
   refine ⟨n,by simpa using h1,fun hw=>?_⟩
   rw [hw] at h3
   exact h3.1
  | succ j =>
   have e':r[j]? = some x:=by simpa using e
   have:∃ ns',finL H (i + 1) r ns':=by
    cases hw:y.w with
    | true=>rw [hw] at h3;obtain ⟨ns',_,h4⟩:=h3;exact ⟨ns',h4⟩
    | false=>rw [hw] at h3;exact ⟨ns,h3.2⟩
   obtain ⟨ns',h4⟩:=this
   have:=finL_spec h4 j x e'
   rwa [show i + 1 + j = i + (j + 1) by omega] at this

theorem st_sound (T:Tab P) {f:FuncId} {m:Nat} {ic:IC} {rs:List IRes} {nt:Nat} (C:CompAt P f m ic rs nt) {args:List Value} (hn:args.length≤nt) (hsub:Sub G W) (hls:∀ x∈ls,W.heap[x.b]? = some x.lb.obj∧G x.b = none∧x.lb.one) (hnd:(ls.map (·.b)).Nodup) (hm:ls.length≤m)
  {svs:List SV} {obs:List OB} (ha:relArgs (lentE ls) m svs args) (ho:obsOk (lentE ls) m ls obs) {K:Value→List LB→Hp→Prop}
  (h:vc P T.get (.no []) ic m ⟨lookSV svs,lookOB obs,G⟩ fun o _ σ=>match o with
   | .norm=>finS rs σ ls K
   | .ret=>finS rs σ ls K
   | .exit _=>False) :
  Calls P f args.toArray W fun e W'=>∃ v ns G',e = .returned v∧K v ns G'∧LentTo W' ls ns∧Grow G G'∧Sub G' W'∧(∀ b o,G' b = some o→G b = some o∨W.heap.size≤b)∧Beneath ⟨W,lentW ls,[]⟩ W':=by
 obtain ⟨fn,c,b2,hf,hb,hc,hr,hnt⟩:=C.ex
 subst hnt
 have hE:∀ i x,ls[i]? = some x→lentE ls i = x.val:=fun i x e=>by simp [lentE,e]
 have hval:∀ x:LE,blkOf x.val = some x.b:=fun x=>by cases x with | mk b w lb=>cases lb<;>rfl
 have hmem:∀ i x,ls[i]? = some x→x∈ls:=fun i x e=>List.mem_of_getElem? e
 have hok:∀ i ob,lookOB obs i = some ob→∃ x,ls[i]? = some x∧obOk (lentE ls) m x ob:=obsOk_look ho
 have hlow:∀ b,(∃ x∈ls,x.b = b)→b < W.heap.size∧G b = none:=fun b ⟨x,hx,e⟩=>by
  obtain ⟨k1,k2,_⟩:=hls x hx
  subst e
  exact ⟨(Array.getElem?_eq_some_iff.1 k1).1,k2⟩
 have hsat:Sat ⟨W,fun b=>∃ x∈ls,x.b = b,[]⟩ G fn.ntmps (fun k=>k < m) (lentE ls) ⟨lookSV svs,lookOB obs,G⟩ { tmps:=args.toArray++Array.replicate (fn.ntmps - args.toArray.size) undef,defers:=[] } W:=by
  refine ⟨⟨Beneath.refl _,hsub,fun b o h=>.inl h, ?_, ?_, ?_, ?_⟩,fun i=>(relArgs_look ha i).2, ?_, ?_,by simp;omega,rfl⟩
  ·intro i ob e
   obtain ⟨x,hx,hob⟩:=hok i ob e
   obtain ⟨k1,k2,k3⟩:=hls x (hmem i x hx)
   obtain ⟨b,w,lb⟩:=x
   cases lb with
   | cells vs t =>
    obtain ⟨cs,rfl,h1,h2⟩:=hob
    exact ⟨b,vs,hE i _ hx, .inr ⟨_,hmem i _ hx,rfl⟩,k1,h1,k3,rfl⟩
   | map es c =>
    have hob:ob = .map (.named b) es c:=hob
    subst hob
    exact ⟨b,hE i _ hx, .inr ⟨_,hmem i _ hx,rfl⟩,k1,rfl⟩
   | row n0 n cap vs rest t k =>
    have hob:ob = .xrow b n cap vs rest t k:=hob
    subst hob
    obtain ⟨o1,o2,o3,o4,o5,o6⟩:=k3
    exact ⟨hE i _ hx, .inr ⟨_,hmem i _ hx,rfl⟩,k1,o2,o3,o4,o5,o6⟩
  ·intro i ob v e e2
   obtain ⟨x,hx,hob⟩:=hok i ob e
   obtain ⟨b,w,lb⟩:=x
   cases lb with
   | cells vs t=>obtain ⟨cs,rfl,_⟩:=hob;cases e2
   | map es c=>have hob:ob = .map (.named b) es c:=hob;subst hob;cases e2
   | row n0 n cap vs rest t k=>have hob:ob = .xrow b n cap vs rest t k:=hob;subst hob;cases e2
  ·intro i ob e e2 b hb
   obtain ⟨x,hx,hob⟩:=hok i ob e
   replace hb:=obOk_has hob hb
   rw [hE i x hx,hval x] at hb
   cases hb
   exact (hls x (hmem i x hx)).2.1
  ·intro i ob i' ob' b e e2 e3 e4 e5
   obtain ⟨x,hx,hob⟩:=hok i ob e
   obtain ⟨x',hx',hob'⟩:=hok i' ob' e2
   replace e4:=obOk_has hob e4
   replace e5:=obOk_has hob' e5
   rw [hE i x hx,hval x] at e4
   rw [hE i' x' hx',hval x'] at e5
   have h1:(ls.map (·.b))[i]? = some b:=by simp [hx];simpa using e4
   have h2:(ls.map (·.b))[i']? = some b:=by simp [hx'];simpa using e5
   have l1:=(List.getElem?_eq_some_iff.1 h1).1
   exact (List.getElem?_inj l1 hnd).1 (h1.trans h2.symm)
  ·intro i ob e
   obtain ⟨x,hx,hob⟩:=hok i ob e
   refine ⟨Nat.lt_of_lt_of_le (List.getElem?_eq_some_iff.1 hx).1 hm, ?_⟩
   obtain ⟨b,w,lb⟩:=x
   cases lb with
   | cells vs t=>obtain ⟨cs,rfl,_,h2⟩:=hob;exact h2
   | map es c=>have hob:ob = .map (.named b) es c:=hob;subst hob;trivial
   | row n0 n cap vs rest t k=>have hob:ob = .xrow b n cap vs rest t k:=hob;subst hob;trivial
  ·intro i
   have h1:=(relArgs_look ha i).1
   have:(args.toArray++Array.replicate (fn.ntmps - args.toArray.size) undef).getD i undef = args[i]?.getD undef:=by
    rw [Array.getD_eq_getD_getElem?,Array.getElem?_append]
    split
    ·simp
    ·rename_i hlt
     have:args[i]? = none:=List.getElem?_eq_none_iff.2 (by simpa using hlt)
     rw [this,Array.getElem?_replicate]
     split<;>rfl
   rw [this];exact h1
 have hs:SatE (baseEnv (fun b=>∃ x∈ls,x.b = b) G W) [] fn.ntmps m (fun _=>False) (lentE ls) ⟨lookSV svs,lookOB obs,G⟩ { tmps:=args.toArray++Array.replicate (fn.ntmps - args.toArray.size) undef,defers:=[] } W :=
  SatE.of (r:=⟨W,fun b=>∃ x∈ls,x.b = b,[]⟩) (G0:=G) (fun _ h=>h) (fun _ h=>h.elim) (Agree.refl _ _) ⟨baseEnv_at.2 ⟨Beneath.refl ⟨W,_,[]⟩,fun b o h=>.inl h,fun b h=>h.elim (fun h=>.inr h.1) (fun ⟨d,hd,_⟩=>by cases hd)⟩,fun b hb=>(hlow b hb).1,hsub,marks_start⟩ (Grow.refl _) hsat
 refine body_sound T baseEnv_ok hf hb hc hr (K:=fun _ vs H G=>FinS H ls fun ns=>K (wrapV vs) ns G) hs h ?_
 intro σ' W' M E vs H' G' ⟨ns,hfl,k1⟩ hg hd
 obtain ⟨hbl,hnewG,_⟩:=baseEnv_at.1 hd.at_
 have hsim:=hd.sim
 -- each lent block,at the end
 have each:∀ (H'':Nat→Option OB),H'' = H'→∀ (i:Nat) (x:LE) (n:LB),(match n with
   | .cells vs t=>∃ cs,H'' i = some (.cells (.named x.b) cs t)∧toValsH H'' cs = some vs
   | .map es c=>H'' i = some (.map (.named x.b) es c)
   | .row n0 n cap vs rest t k=>H'' i = some (.xrow x.b n cap vs rest t k)∧n0≤n)→W'.heap[x.b]? = some n.obj∧n.one∧G' x.b = none:=by
  rintro _ rfl i ⟨b,w,lb⟩ n hn
  cases n with
  | cells us t =>
   obtain ⟨cs,h1,h2⟩:=hn
   obtain ⟨b',vs',e1,e2,e3,e4,e5,e6⟩:=hsim.own i _ h1
   have e6:b = b':=e6
   subst e6
   have:=toValsH_rel (fun h ob v e e'=>hsim.name e e') e4 h2
   subst this
   exact ⟨e3,e5,hsim.priv i _ h1 rfl b (by rw [e1];rfl)⟩
  | map es c =>
   obtain ⟨b',e1,e2,e3,e6⟩:=hsim.own i _ hn
   have e6:b = b':=e6
   subst e6
   exact ⟨e3,trivial,hsim.priv i _ hn rfl b (by rw [e1];rfl)⟩
  | row n0 n cap vs rest t k =>
   obtain ⟨f1,f2,f3,f4,f5,f6,f7,f8⟩:=hsim.own i _ hn.1
   exact ⟨f3,⟨hn.2,f4,f5,f6,f7,f8⟩,hsim.priv i _ hn.1 rfl b (by rw [f1];rfl)⟩
 have lent:∀ (l:List LE) (i:Nat) (ns:List LB),finL H' i l ns→LentTo W' l ns:=by
  intro l
  induction l with
  | nil=>intro i ns h;exact h
  | cons x r ih =>
   intro i ns h
   obtain ⟨n,h1,h2,h3⟩:=h
   obtain ⟨q1,q2,_⟩:=each H' rfl i x n h1
   cases hw:x.w with
   | true =>
    rw [hw] at h3
    obtain ⟨ns',rfl,h4⟩:=h3
    simp only [LentTo,hw]
    exact ⟨q1,q2,h2,ih _ _ h4⟩
   | false =>
    rw [hw] at h3
    simp only [LentTo,hw]
    exact ih _ _ h3.2
 refine ⟨_,ns,G',rfl,k1,lent ls 0 ns hfl,hg,hsim.sub, ?_, ?_⟩
 ·intro b o e
  rcases hnewG b o e with h | h | ⟨x,hx,rfl⟩
  ·exact .inl h
  ·exact .inr h
  ·obtain ⟨j,hj,e2⟩:=List.mem_iff_getElem.1 hx
   obtain ⟨n,h1,_⟩:=finL_spec hfl j x (by rw [List.getElem?_eq_getElem hj,e2])
   have:=(each H' rfl _ x n h1).2.2
   rw [this] at e;cases e
 ·refine ⟨hbl.os,hbl.tape,hbl.output,hbl.size,fun k hk hn=>?_⟩
  by_cases hin:∃ x∈ls,x.b = k
  ·obtain ⟨x,hx,rfl⟩:=hin
   have hw:x.w = false:=by
    cases hw:x.w with
    | false=>rfl
    | true=>exact absurd ⟨x,hx,hw,rfl⟩ hn
   obtain ⟨j,hj,e2⟩:=List.mem_iff_getElem.1 hx
   obtain ⟨n,h1,h2⟩:=finL_spec hfl j x (by rw [List.getElem?_eq_getElem hj,e2])
   have h3:=(each H' rfl _ x n h1).1
   rw [h2 hw] at h3
   exact h3.trans (hls x hx).1.symm
  ·exact hbl.block k hk hin
end
abbrev o1 (d:Nat) (op:IOp) (h:Nat):IOper:=.mk (some d) op none h none false [] false
abbrev o2 (op:IOp) (h:Nat):IOper:=.mk none op none h none false [] false
abbrev o3 (d:Nat) (op:IOp) (h:Nat):IOper:=.mk (some d) op none h (some []) true [] false
abbrev o4 (op:IOp) (h:Nat):IOper:=.mk none op none h (some []) true [] false
end Go.Pal

namespace Go.Proofs.Ytefnikpoimaiiaa
open Go.Pal
def ir39:IC :=
 .seq (.reg 0 1 [o1 0 (.alloc 124 [.int .i64 0, .int .i64 0, .int .i64 0, .bool .false]) 0]) (.seq (.reg 1 2 [o1 1 (.bld [(0,1),(1,1),(2,1),(3,1)] [.int .i64 0, .int .i64 0, .int .i64 0, .bool .false] [(0, .k (.int .i64 (-2)))]) 1,o2 (.store 4 (.t 0) (.t 1)) 2]) .ret)
def rs39:List IRes:=[.cell 0 4 .true]
set_option maxRecDepth 100000 in
theorem comp39:Comp Try.prog 39 ir39 rs39 2:=⟨⟨_,_,3,Try.func39,rfl,by kernel_rfl,by kernel_rfl,rfl⟩⟩
theorem body39:HasBody Try.prog 39:=hasBody_of (by kernel_rfl)

def ir40:IC :=
 .seq (.reg 0 4 [o1 3 (.box 34 (.t 0)) 0,o1 4 (.box 124 (.t 1)) 1,o1 5 (.box 39 (.t 2)) 2,o1 6 (.mv (.k .nilFunc)) 3]) (.seq (.reg 4 4 [o1 8 (.load 5 .true (.t 3)) 4,
 o1 9 (.mkf 69 [.t 8] []) 5,o1 7 (.alloc 186 [.nilFunc]) 6,o2 (.store 1 (.t 7) (.t 9)) 7]) (.seq (.reg 8 2 [o1 10 (.mkf 70 [] [.t 3, .t 5, .t 7, .t 4]) 8,o1 6 (.mv (.t 10)) 9]) .ret))
def rs40:List IRes:=[.tmp 6]
set_option maxRecDepth 100000 in
theorem comp40:Comp Try.prog 40 ir40 rs40 11:=⟨⟨_,_,10,Try.func40,rfl,by kernel_rfl,by kernel_rfl,rfl⟩⟩
theorem body40:HasBody Try.prog 40:=hasBody_of (by kernel_rfl)

def ir41:IC :=
 .seq (.reg 0 1 [o1 2 (.mv (.k (.int .u16 0))) 0]) (.seq (.seq (.reg 1 2 [o1 3 (.mv (.t 0)) 1,o1 4 (.bin .eql (.t 3) (.k (.int .i64 (-1)))) 2]) (.cond (.t 4) (.seq (.reg 3 1 [o1 2 (.mv (.k (.int .u16 32768))) 3]) .ret) .skip)) (.seq (.reg 4 3 [o1 5 (.mv (.t 0)) 4,o1 6 (.pur (.bin .shl 37) [.k (.int .u16 1), .t 5]) 5,o1 2 (.mv (.t 6)) 6]) .ret))
def rs41:List IRes:=[.tmp 2]
set_option maxRecDepth 100000 in
theorem comp41:Comp Try.prog 41 ir41 rs41 7:=⟨⟨_,_,7,Try.func41,rfl,by kernel_rfl,by kernel_rfl,rfl⟩⟩
theorem body41:HasBody Try.prog 41:=hasBody_of (by kernel_rfl)

def ir69:IC :=
 .seq (.reg 0 5 [o1 3 (.box 34 (.t 0)) 0,o1 4 (.box 124 (.t 1)) 1,o1 5 (.box 58 (.t 2)) 2,o1 6 (.alloc 124 [.int .i64 0, .int .i64 0, .int .i64 0, .bool .false]) 3,o1 7 (.mv (.k (.bool .false))) 4]) (.seq (.seq (.reg 5 3 [o1 10 (.faddr 0 (.t 5)) 5,o1 11 (.load 1 .false (.t 10)) 6,o1 12 (.bin .eql (.t 11) (.k (.int .i64 (-1)))) 7]) (.cond (.t 12) (.seq (.reg 8 15 [o1 13 (.faddr 0 (.t 4)) 8,o1 14 (.load 1 .false (.t 13)) 9,o1 15 (.bin .lss (.t 14) (.k (.int .i64 0))) 10,o1 16 (.mv (.t 15)) 11, .mk (.some 17) (.faddr 1 (.t 4)) (.some (16, .false)) 12 .none .false [] .false, .mk (.some 18) (.load 1
 .false (.t 17)) (.some (16, .false)) 13 .none .false [] .false, .mk (.some 19) (.faddr 1 (.t 3)) (.some (16, .false)) 14 .none .false [] .false, .mk (.some 20) (.load 1 .false (.t
 19)) (.some (16, .false)) 15 .none .false [] .false, .mk (.some 21) (.bin .geq (.t 18) (.t 20)) (.some (16, .false)) 16 .none .false [] .false, .mk (.some 22) (.mv (.t 21)) (.some
 (16, .false)) 17 .none .false [] .false, .mk (.some 23) (.faddr 3 (.t 4)) (.some (22, .true)) 18 .none .false [] .false, .mk (.some 24) (.load 1 .false (.t 23)) (.some (22,
 .true)) 19 .none .false [] .false, .mk (.some 25) (.pick (.t 22) (.t 24) (.k (.bool .false))) (.some (16, .false)) 20 .none .false [] .false,o1 26 (.pick (.t 16) (.k (.bool .true)) (.t 25)) 21,o1 8 (.mv (.t 26)) 22]) (.seq (.drawd 23 9 [] [] [] [.none, .none, .none, .none,
 .some [5], .none, .none, .some [6], .none] [(0,o3 27 (.bld [(0,1),(1,1),(2,1),(3,1)] [.int .i64 0, .int .i64 0, .int .i64 0, .bool .false] [(0, .k (.int .i64 (-1)))]) 23),(1,o3 28 (.mv (.t 8)) 24),(2, .mk (.some 29) (.mv (.t 28)) .none 25 (.some []) .true [1]
 .false),(3, .mk (.some 30) (.faddr 1 (.t 5)) (.some (29, .true)) 26 (.some []) .true [1,2] .false),(4, .mk (.some 31) (.load 1 .false (.t 30)) (.some (29, .true)) 27 (.some [])
 .true [2,1,3] .false),(5, .mk (.some 32) (.bin .eql (.t 31) (.k (.int .i64 (-1)))) (.some (29, .true)) 28 (.some []) .true [3,1,2,4] .false),(6, .mk (.some 33) (.pick (.t
 29) (.t 32) (.k (.bool .false))) .none 29 (.some []) .true [4,3,5,1,2] .false),(7, .mk .none (.store 4 (.t 6) (.t 27)) .none 30 (.some []) .true [1,2,0] .false),(8, .mk
 (.some 7) (.mv (.t 33)) .none 31 (.some []) .true [0,7,2,1,5,3,4,6] .false)]) .ret)) .skip)) (.seq (.reg 32 10 [o1 34 (.faddr 0 (.t 5)) 32,o1 35 (.load 1 .false (.t 34)) 33,o1 36 (.faddr 1 (.t 5)) 34,o1 37 (.load 1 .false (.t 36)) 35,o1 38 (.faddr 0 (.t 5)) 36,o1 39 (.load 1 .false (.t 38)) 37,o1 40 (.bin .eql (.t 37) (.t 39)) 38,o1 41 (.bld [(0,1),(1,1),(2,1),(3,1)] [.int .i64 0, .int .i64 0, .int .i64 0, .bool .false] [(0, .t 35),(1, .k (.int .i64 1)),(3, .t 40)]) 39,o1 9 (.alloc 124 [.int .i64 0, .int .i64 0, .int .i64 0, .bool .false]) 40,o2 (.store 4 (.t 9) (.t 41)) 41]) (.seq (.seq (.reg 42 5 [o1 42 (.faddr 0 (.t 5)) 42,o1 43 (.load 1 .false (.t 42)) 43,o1 44 (.faddr 0 (.t 4)) 44,o1 45 (.load 1 .false (.t 44)) 45,o1 46 (.bin .eql (.t 43) (.t 45)) 46]) (.cond (.t 46) (.reg 47 5 [o1 47 (.faddr 1 (.t 4)) 47,o1 48 (.load 1 .false (.t 47)) 48,o1 49 (.bin .add (.t 48) (.k (.int .i64 1))) 49,o1 50 (.faddr 1 (.t 9)) 50,o2 (.store 1 (.t 50) (.t 49)) 51]) (.seq (.reg 52 20
 [o1 51 (.faddr 3 (.t 9)) 52,o1 52 (.load 1 .false (.t 51)) 53,o1 53 (.un .not (.t 52)) 54,o1 54 (.mv (.t 53)) 55, .mk (.some 55) (.faddr 0 (.t 4)) (.some (54, .false)) 56 .none .false [] .false, .mk
 (.some 56) (.load 1 .false (.t 55)) (.some (54, .false)) 57 .none .false [] .false, .mk (.some 57) (.bin .geq (.t 56) (.k (.int .i64 0))) (.some (54, .false)) 58 .none .false []
 .false, .mk (.some 58) (.mv (.t 57)) (.some (54, .false)) 59 .none .false [] .false, .mk (.some 59) (.faddr 1 (.t 4)) (.some (58, .true)) 60 .none .false [] .false, .mk (.some 60)
 (.load 1 .false (.t 59)) (.some (58, .true)) 61 .none .false [] .false, .mk (.some 61) (.faddr 1 (.t 3)) (.some (58, .true)) 62 .none .false [] .false, .mk (.some 62) (.load 1
 .false (.t 61)) (.some (58, .true)) 63 .none .false [] .false, .mk (.some 63) (.bin .lss (.t 60) (.t 62)) (.some (58, .true)) 64 .none .false [] .false, .mk (.some 64) (.mv (.t
 63)) (.some (58, .true)) 65 .none .false [] .false, .mk (.some 65) (.faddr 3 (.t 4)) (.some (64, .false)) 66 .none .false [] .false, .mk (.some 66) (.load 1 .false (.t 65)) (.some
 (64, .false)) 67 .none .false [] .false, .mk (.some 67) (.un .not (.t 66)) (.some (64, .false)) 68 .none .false [] .false, .mk (.some 68) (.pick (.t 64) (.k (.bool .true)) (.t
 67)) (.some (58, .true)) 69 .none .false [] .false, .mk (.some 69) (.pick (.t 58) (.t 68) (.k (.bool .false))) (.some (54, .false)) 70 .none .false [] .false,o1 70 (.pick (.t 54) (.k (.bool .true)) (.t 69)) 71]) (.cond (.t 70) (.seq (.reg 72 3 [o1 71 (.bld [(0,1),(1,1),(2,1),(3,1)] [.int .i64 0, .int .i64 0, .int .i64 0, .bool .false] []) 72,o2 (.store 4 (.t 6) (.t 71)) 73,o1 7 (.mv (.k (.bool .false))) 74]) .ret) .skip)))) (.seq (.seq (.reg 75 8 [o1 72 (.faddr 1 (.t 5)) 75,o1 73 (.load 1 .false (.t 72)) 76,o1 74 (.bin .neq (.t 73) (.k (.int .i64 (-1)))) 77,o1 75 (.mv (.t 74)) 78, .mk (.some 76) (.faddr 3 (.t 9)) (.some (75, .true)) 79 .none .false [] .false, .mk (.some 77) (.load 1 .false (.t 76)) (.some (75, .true)) 80 .none .false
 [] .false, .mk (.some 78) (.un .not (.t 77)) (.some (75, .true)) 81 .none .false [] .false,o1 79 (.pick (.t 75) (.t 78) (.k (.bool .false))) 82]) (.cond (.t 79) (.reg 83 5 [o1 80 (.faddr 2 (.t 4)) 83,o1 81 (.load 1 .false (.t 80)) 84,o1 82 (.bin .add (.t 81) (.k (.int .i64 1))) 85,o1 83 (.faddr 2 (.t 9)) 86,o2 (.store 1 (.t 83) (.t 82)) 87]) .skip)) (.seq (.drawd 88 15 [] [] [] [.some [9], .none, .some [9], .none, .some [3], .none, .none, .none, .some [9], .none, .some [3],
 .none, .none, .some [6], .none] [(0,o3 84 (.load 4 .true (.t 9)) 88),(1,o3 85 (.faddr 1 (.t 9)) 89),(2, .mk (.some 86) (.load 1 .false (.t 85)) .none 90 (.some []) .true [1] .false),(3,o3 87 (.faddr 2 (.t 3)) 91),(4, .mk
 (.some 88) (.load 1 .false (.t 87)) .none 92 (.some []) .true [3] .false),(5, .mk (.some 89) (.bin .leq (.t 86) (.t 88)) .none 93 (.some []) .true [3,4,1,2] .false),(6, .mk
 (.some 90) (.mv (.t 89)) .none 94 (.some []) .true [2,1,4,3,5] .false),(7, .mk (.some 91) (.faddr 2 (.t 9)) (.some (90, .true)) 95 (.some []) .true [5,3,4,1,2,6]
 .false),(8, .mk (.some 92) (.load 1 .false (.t 91)) (.some (90, .true)) 96 (.some []) .true [6,2,1,4,3,5,7] .false),(9, .mk (.some 93) (.faddr 3 (.t 3)) (.some (90,
 .true)) 97 (.some []) .true [5,3,4,1,2,6] .false),(10, .mk (.some 94) (.load 1 .false (.t 93)) (.some (90, .true)) 98 (.some []) .true [6,2,1,4,3,5,9] .false),(11,
 .mk (.some 95) (.bin .leq (.t 92) (.t 94)) (.some (90, .true)) 99 (.some []) .true [9,10,7,5,3,4,1,2,6,8] .false),(12, .mk (.some 96) (.pick (.t 90) (.t 95) (.k (.bool
 .false))) .none 100 (.some []) .true [8,7,10,9,11,5,3,4,1,2,6] .false),(13, .mk .none (.store 4 (.t 6) (.t 84)) .none 101 (.some []) .true [5,3,4,1,2,6,0]
 .false),(14, .mk (.some 7) (.mv (.t 96)) .none 102 (.some []) .true [0,13,6,2,1,4,3,5,11,9,10,7,8,12] .false)]) .ret)))))
def rs69:List IRes:=[.cell 6 4 .true, .tmp 7]
set_option maxRecDepth 100000 in
theorem comp69:Comp Try.prog 69 ir69 rs69 97:=⟨⟨_,_,103,Try.func69,rfl,by kernel_rfl,by kernel_rfl,rfl⟩⟩
theorem body69:HasBody Try.prog 69:=hasBody_of (by kernel_rfl)

def ir70:IC :=
 .seq (.reg 0 1 [o1 5 (.box 187 (.t 0)) 0]) (.seq (.reg 1 4 [o1 11 (.load 5 .true (.t 1)) 1,o1 12 (.faddr 0 (.t 2)) 2,o1 13 (.load 1 .false (.t 12)) 3,o1 14 (.call 71 [.t 11, .t 13]) 4]) (.block 0 (.range (.t 14) [15] (.reg 5 2 [o1 6 (.alloc 3 [.int .i64 0]) 5,o2 (.store 1 (.t 6) (.t 15)) 6]) (.block 1 (.seq (.reg 7 4 [o1 16 (.load 5 .true (.t 1)) 7,o1 17 (.faddr 1 (.t 2)) 8,o1 18 (.load 1 .false (.t 17)) 9,o1 19 (.call 71 [.t 16, .t 18]) 10]) (.block 2 (.range (.t
 19) [20] (.reg 11 1 [o1 7 (.mv (.t 20)) 11]) (.block 3 (.seq (.reg 12 5 [o1 21 (.load 1 .false (.t 6)) 12,o1 22 (.mv (.t 7)) 13,o1 23 (.bld [(0,1),(1,1)] [.int .i64 0, .int .i64 0] [(0, .t 21),(1, .t 22)]) 14,o1 8 (.alloc 58 [.int .i64 0, .int .i64 0]) 15,o2 (.store 2 (.t 8) (.t 23)) 16]) (.seq
 (.reg 17 10 [o1 25 (.load 1 .false (.t 3)) 17,o1 26 (.load 4 .true (.t 4)) 18,o1 27 (.load 2 .true (.t 8)) 19,o1 28 (.callv (.t 25) [.t 26, .t 27]) 20,o1 24 (.mv (.t 28)) 21,o1 29 (.ext (.t 24) 0) 22,o1 30 (.ext (.t 24) 1) 23,o1 9 (.alloc 124 [.int .i64 0, .int .i64 0, .int .i64 0, .bool .false]) 24,o2 (.store 4 (.t 9) (.t 29)) 25,o1 10 (.mv (.t 30)) 26]) (.seq (.reg 27 8 [o1 31 (.mv (.t 10)) 27,o1 32 (.mv (.t 31)) 28, .mk
 (.some 33) (.load 1 .false (.t 5)) (.some (32, .true)) 29 .none .false [] .false, .mk (.some 34) (.load 2 .true (.t 8)) (.some (32, .true)) 30 .none .false [] .false, .mk (.some
 35) (.load 4 .true (.t 9)) (.some (32, .true)) 31 .none .false [] .false, .mk (.some 36) (.callv (.t 33) [.t 34, .t 35]) (.some (32, .true)) 32 .none .false [] .false, .mk (.some
 37) (.un .not (.t 36)) (.some (32, .true)) 33 .none .false [] .false,o1 38 (.pick (.t 32) (.t 37) (.k (.bool .false))) 34]) (.cond (.t 38)
 .ret .skip))))))))))))
def rs70:List IRes:=[]
set_option maxRecDepth 100000 in
theorem comp70:Comp Try.prog 70 ir70 rs70 39:=⟨⟨_,_,35,Try.func70,rfl,by kernel_rfl,by kernel_rfl,rfl⟩⟩
theorem body70:HasBody Try.prog 70:=hasBody_of (by kernel_rfl)

def ir71:IC :=
 .seq (.reg 0 3 [o1 2 (.box 34 (.t 0)) 0,o1 3 (.box 37 (.t 1)) 1,o1 4 (.mv (.k .nilFunc)) 2]) (.seq (.reg 3 2 [o1 5 (.mkf 102 [] [.t 2, .t 3]) 3,o1 4 (.mv (.t 5)) 4])
 .ret)
def rs71:List IRes:=[.tmp 4]
set_option maxRecDepth 100000 in
theorem comp71:Comp Try.prog 71 ir71 rs71 6:=⟨⟨_,_,5,Try.func71,rfl,by kernel_rfl,by kernel_rfl,rfl⟩⟩
theorem body71:HasBody Try.prog 71:=hasBody_of (by kernel_rfl)

def ir102:IC :=
 .seq (.reg 0 1 [o1 4 (.mv (.k (.int .i64 (-1)))) 0]) (.block 0 (.loop (.seq (.seq (.reg 1 4 [o1 5 (.mv (.t 4)) 1,o1 6 (.faddr 0 (.t 1)) 2,o1 7 (.load 1 .false (.t 6)) 3,o1 8 (.bin .lss (.t 5) (.t 7)) 4]) (.cond (.t 8) .skip (.exit 0))) (.seq (.block 1 (.seq (.drawy 5 8 11 [4] [o3 11 (.load 1 .false (.t 2)) 5,o3 12 (.mv (.t 4)) 6,o3 13 (.call 41 [.t 12]) 7, .mk (.some 14) (.pur (.bin .and 37)
 [.t 11, .t 13]) .none 8 (.some [7]) .true [] .false, .mk (.some 15) (.bin .neq (.t 14) (.k (.int .u16 0))) .none 9 (.some [7]) .true [] .false, .mk (.some 16) (.mv (.t 15)) .none
 10 (.some [7]) .true [] .false, .mk (.some 17) (.mv (.t 0)) (.some (16, .true)) 11 (.some [7]) .true [] .false, .mk (.some 18) (.mv (.t 4)) (.some (16, .true)) 12 (.some [7])
 .true [] .false] [.mk (.some 19) (.callv (.t 17) [.t 18]) (.some (16, .true)) 13 .none .false [] .false, .mk (.some 20) (.un .not (.t 19)) (.some (16, .true)) 14 .none .false []
 .false,o1 21 (.pick (.t 16) (.t 20) (.k (.bool .false))) 15]) (.cond (.t 21) .ret .skip))) (.reg 16 3 [o1 9 (.mv (.t 4)) 16,o1 10 (.bin .add (.t 9) (.k (.int .i64 1))) 17,o1 4 (.mv (.t 10)) 18])))))
def rs102:List IRes:=[]
set_option maxRecDepth 100000 in
theorem comp102:Comp Try.prog 102 ir102 rs102 22:=⟨⟨_,_,19,Try.func102,rfl,by kernel_rfl,by kernel_rfl,rfl⟩⟩
theorem body102:HasBody Try.prog 102:=hasBody_of (by kernel_rfl)

def ir66:IC :=
 .seq (.reg 0 2 [o1 1 (.box 34 (.t 0)) 0,o1 2 (.mv (.k (.int .i64 0))) 1]) (.seq (.reg 2 9 [o1 5 (.faddr 0 (.t 1)) 2,o1 6 (.load 1 .false (.t 5)) 3,o1 7 (.mm .false (.t 6) (.k (.int .i64 12))) 4,o1 8 (.mm .true (.k (.int .i64 0)) (.t 7)) 5,o1 9 (.pur (.bin .shl 37) [.k (.int .u16 1), .t 8]) 6,o1 10 (.bin .sub (.t 9) (.k (.int .u16 1))) 7,o1 11 (.pur (.bin .or 37) [.k (.int .u16 32768), .t 10]) 8,o1 3 (.alloc 37 [.int .u16 0]) 9,o2 (.store 1 (.t 3) (.t 11)) 10]) (.seq
 (.reg 11 2 [o1 12 (.mkf 98 [] [.t 3]) 11,o1 4 (.mv (.t 12)) 12]) (.seq (.block 0 (.seq (.reg 13 5 [o1 14 (.faddr 4 (.t 1)) 13,o1 15 (.load 1 .false (.t 14)) 14,o1 16 (.len (.t 15)) 15,o1 17 (.bin .gtr (.t 16) (.k (.int .i64 40))) 16,o1 13 (.mv (.t 17)) 17]) (.cond (.t
 13) (.seq (.reg 18 1 [o1 2 (.mv (.k (.int .i64 3))) 18]) .ret) (.seq (.reg 19 32 [o1 19 (.faddr 0 (.t 1)) 19,o1 20 (.load 1 .false (.t 19)) 20,o1 21 (.call 99 [.t 20, .k (.int .i64 1), .k (.int .i64 12)]) 21,o1 22 (.un .not (.t 21)) 22,o1 23 (.mv (.t 22)) 23, .mk (.some 24) (.faddr 2 (.t 1)) (.some
 (23, .false)) 24 .none .false [] .false, .mk (.some 25) (.load 1 .false (.t 24)) (.some (23, .false)) 25 .none .false [] .false, .mk (.some 26) (.call 99 [.t 25, .k (.int .i64 1),
 .k (.int .i64 20)]) (.some (23, .false)) 26 .none .false [] .false, .mk (.some 27) (.un .not (.t 26)) (.some (23, .false)) 27 .none .false [] .false,o1 28 (.pick (.t 23) (.k (.bool .true)) (.t 27)) 28,o1 29 (.mv (.t 28)) 29, .mk (.some 30) (.faddr 1 (.t 1)) (.some (29, .false)) 30
 .none .false [] .false, .mk (.some 31) (.load 1 .false (.t 30)) (.some (29, .false)) 31 .none .false [] .false, .mk (.some 32) (.faddr 2 (.t 1)) (.some (29, .false)) 32 .none
 .false [] .false, .mk (.some 33) (.load 1 .false (.t 32)) (.some (29, .false)) 33 .none .false [] .false, .mk (.some 34) (.call 99 [.t 31, .k (.int .i64 1), .t 33]) (.some (29,
 .false)) 34 .none .false [] .false, .mk (.some 35) (.un .not (.t 34)) (.some (29, .false)) 35 .none .false [] .false,o1 36 (.pick (.t 29) (.k (.bool .true)) (.t 35)) 36,o1 37 (.mv (.t 36)) 37, .mk (.some 38) (.faddr 3 (.t 1)) (.some (37, .false)) 38 .none .false [] .false, .mk
 (.some 39) (.load 1 .false (.t 38)) (.some (37, .false)) 39 .none .false [] .false, .mk (.some 40) (.call 99 [.t 39, .k (.int .i64 0), .k (.int .i64 20)]) (.some (37, .false)) 40
 .none .false [] .false, .mk (.some 41) (.un .not (.t 40)) (.some (37, .false)) 41 .none .false [] .false,o1 42 (.pick (.t 37) (.k (.bool .true)) (.t 41)) 42,o1 43 (.mv (.t 42)) 43, .mk (.some 44) (.faddr 4 (.t 1)) (.some (43, .false)) 44 .none .false [] .false, .mk (.some 45)
 (.load 1 .false (.t 44)) (.some (43, .false)) 45 .none .false [] .false, .mk (.some 46) (.mv (.t 4)) (.some (43, .false)) 46 .none .false [] .false, .mk (.some 47) (.call 100 [.t
 45, .t 46]) (.some (43, .false)) 47 .none .false [] .false, .mk (.some 48) (.un .not (.t 47)) (.some (43, .false)) 48 .none .false [] .false,o1 49 (.pick (.t 43) (.k (.bool .true)) (.t 48)) 49,o1 18 (.mv (.t 49)) 50]) (.cond (.t 18) (.seq (.reg 51 1 [o1 2 (.mv (.k (.int .i64 1))) 51]) .ret) .skip))))) (.seq (.reg 52 1 [o1 2 (.mv (.k (.int .i64 0))) 52]) .ret))))
def rs66:List IRes:=[.tmp 2]
set_option maxRecDepth 100000 in
theorem comp66:Comp Try.prog 66 ir66 rs66 50:=⟨⟨_,_,53,Try.func66,rfl,by kernel_rfl,by kernel_rfl,rfl⟩⟩
theorem body66:HasBody Try.prog 66:=hasBody_of (by kernel_rfl)

def ir98:IC :=
 .seq (.reg 1 2 [o1 2 (.box 39 (.t 0)) 1,o1 3 (.mv (.k (.bool .false))) 2]) (.seq (.reg 3 9 [o1 4 (.faddr 0 (.t 2)) 3,o1 5 (.load 1 .false (.t 4)) 4,o1 6 (.faddr 1 (.t 2)) 5,o1 7 (.load 1 .false (.t 6)) 6,o1 8 (.pur (.bin .or 37) [.t 5, .t 7]) 7,o1 9 (.load 1 .false (.t 1)) 8,o1 10 (.pur (.bin .andNot 37) [.t 8, .t 9]) 9,o1 11 (.bin .eql (.t 10) (.k (.int .u16 0))) 10,o1 3 (.mv (.t 11)) 11]) .ret)
def rs98:List IRes:=[.tmp 3]
set_option maxRecDepth 100000 in
theorem comp98:CompAt Try.prog 98 1 ir98 rs98 12:=⟨⟨_,_,12,Try.func98,rfl,by kernel_rfl,by kernel_rfl,rfl⟩⟩
theorem body98:HasBody Try.prog 98:=hasBody_of (by kernel_rfl)

def ir99:IC :=
 .seq (.reg 0 1 [o1 6 (.mv (.k (.bool .false))) 0]) (.seq (.reg 1 9 [o1 7 (.mv (.t 1)) 1,o1 8 (.mv (.t 0)) 2,o1 9 (.bin .leq (.t 7) (.t 8)) 3,o1 10 (.mv (.t 9)) 4,
 .mk (.some 11) (.mv (.t 0)) (.some (10, .true)) 5 .none .false [] .false, .mk (.some 12) (.mv (.t 2)) (.some (10, .true)) 6 .none .false [] .false, .mk (.some 13) (.bin .leq (.t
 11) (.t 12)) (.some (10, .true)) 7 .none .false [] .false,o1 14 (.pick (.t 10) (.t 13) (.k (.bool .false))) 8,o1 6 (.mv (.t 14)) 9]) .ret)
def rs99:List IRes:=[.tmp 6]
set_option maxRecDepth 100000 in
theorem comp99:Comp Try.prog 99 ir99 rs99 15:=⟨⟨_,_,10,Try.func99,rfl,by kernel_rfl,by kernel_rfl,rfl⟩⟩
theorem body99:HasBody Try.prog 99:=hasBody_of (by kernel_rfl)

def ir100:IC :=
 .seq (.reg 1 2 [o1 3 (.box 226 (.t 1)) 1,o1 4 (.mv (.k (.bool .false))) 2]) (.seq (.reg 3 5 [o1 5 (.mv (.t 0)) 3,o1 6 (.mkf 143 [] [.t 3]) 4,o1 7 (.call 142 [.t 5, .t 6]) 5,o1 8 (.un .not (.t 7)) 6,o1 4 (.mv (.t 8)) 7]) .ret)
def rs100:List IRes:=[.tmp 4]
set_option maxRecDepth 100000 in
theorem comp100:CompAt Try.prog 100 1 ir100 rs100 9:=⟨⟨_,_,8,Try.func100,rfl,by kernel_rfl,by kernel_rfl,rfl⟩⟩
theorem body100:HasBody Try.prog 100:=hasBody_of (by kernel_rfl)

def ir142:IC :=
 .seq (.reg 2 1 [o1 4 (.mv (.k (.bool .false))) 2]) (.seq (.reg 3 5 [o1 5 (.mv (.t 0)) 3,o1 6 (.mv (.t 1)) 4,o1 7 (.call 182 [.t 5, .t 6]) 5,o1 8 (.bin .geq (.t 7) (.k (.int .i64 0))) 6,o1 4 (.mv (.t 8)) 7]) .ret)
def rs142:List IRes:=[.tmp 4]
set_option maxRecDepth 100000 in
theorem comp142:CompAt Try.prog 142 2 ir142 rs142 9:=⟨⟨_,_,8,Try.func142,rfl,by kernel_rfl,by kernel_rfl,rfl⟩⟩
theorem body142:HasBody Try.prog 142:=hasBody_of (by kernel_rfl)

def ir143:IC :=
 .seq (.reg 2 2 [o1 2 (.box 39 (.t 0)) 2,o1 3 (.mv (.k (.bool .false))) 3]) (.seq (.reg 4 5 [o1 4 (.load 1 .false (.t 1)) 4,o1 5 (.load 2 .true (.t 2)) 5,o1 6 (.callv (.t 4) [.t 5]) 6,o1 7 (.un .not (.t 6)) 7,o1 3 (.mv (.t 7)) 8]) .ret)
def rs143:List IRes:=[.tmp 3]
set_option maxRecDepth 100000 in
theorem comp143:CompAt Try.prog 143 2 ir143 rs143 8:=⟨⟨_,_,9,Try.func143,rfl,by kernel_rfl,by kernel_rfl,rfl⟩⟩
theorem body143:HasBody Try.prog 143:=hasBody_of (by kernel_rfl)

def ir182:IC :=
 .seq (.reg 2 1 [o1 4 (.mv (.k (.int .i64 0))) 2]) (.seq (.seq (.reg 3 3 [o1 6 (.mv (.t 0)) 3,o1 7 (.len (.t 6)) 4,o1 8 (.mv (.k (.int .i64 0))) 5]) (.block 0 (.loop (.seq (.reg 6 1 [o1 9 (.bin .lss (.t 8) (.t 7)) 6]) (.seq (.cond (.t 9) .skip (.exit 0)) (.seq (.block 1 (.seq (.reg 7 2 [o1 10 (.mv (.t 8)) 7,
 o1 5 (.mv (.t 10)) 8]) (.seq (.reg 9 6 [o1 11 (.mv (.t 1)) 9,o1 12 (.mv (.t 0)) 10,o1 13 (.mv (.t 5)) 11,o1 14 (.iaddr 2 (.t 12) (.t 13)) 12,o1 15 (.load 2 .true (.t 14)) 13,o1 16 (.callv (.t 11) [.t 15]) 14]) (.cond (.t 16) (.seq (.reg 15 2 [o1 17 (.mv (.t 5)) 15,o1 4 (.mv (.t 17)) 16]) .ret) .skip)))) (.reg 17 2 [o1 18 (.bin .add (.t 8) (.k (.int .i64 1))) 17,o1 8 (.mv (.t 18)) 18]))))))) (.seq (.reg 19 1 [o1 4 (.mv (.k (.int .i64 (-1)))) 19]) .ret))
def rs182:List IRes:=[.tmp 4]
set_option maxRecDepth 100000 in
theorem comp182:CompAt Try.prog 182 2 ir182 rs182 19:=⟨⟨_,_,20,Try.func182,rfl,by kernel_rfl,by kernel_rfl,rfl⟩⟩
theorem body182:HasBody Try.prog 182:=hasBody_of (by kernel_rfl)

end Go.Proofs.Ytefnikpoimaiiaa

namespace Go.Proofs.Ytefnikpoimaiiaa
open Go.Pal
def ir67:IC :=
 .seq (.reg 2000 2 [o1 1 (.box 34 (.t 0)) 2000,o1 2 (.mv (.k (.pointer .none))) 2001]) (.seq (.drawd 2002
 9 [] [] [39] [.some [1], .none, .some [], .some [], .none, .none, .none, .none, .none] [(0,o3 12 (.load 5 .true (.t 1)) 2002),(1, .mk
 (.some 13) .mkmh .none 2003 (.some [0]) .true [] .true),(2,o3 14 (.call 39 []) 2004),(3, .mk .none (.mup 124 (.t 13) (.t 14) (.k
 (.bool .true))) .none 2005 (.some [0,2004]) .true [2,1] .true),(4, .mk (.some 15) (.mv (.t 13)) .none 2006 (.some [2004]) .true [3,2,1] .false),(5, .mk (.some 16) (.bslh 129
 1 1 [.map .none] [(0, .t 15)]) .none 2007 (.some [0,2004]) .true [1,2,3,4] .true),(6, .mk (.some 17) (.bld [(0,5),(5,1),(6,1)] [.int .i64 0, .int .i64 0, .int .i64 0,
 .int .i64 0, .slice .none 0 0, .slice .none 0 0, .int .i64 0] [(0, .t 12),(1, .t 16)]) .none 2008 (.some [2004]) .true [4,3,2,1,5,0] .false),(7, .mk (.some 18) (.bxh 132
 (.t 17)) .none 2009 (.some [0,2004]) .true [0,5,1,2,3,4,6] .true),(8, .mk (.some 3) (.mv (.t 18)) .none 2010 (.some [2004]) .true [6,4,3,2,1,5,0,7] .false)]) (.seq
 (.seq (.reg 2011 4 [o1 19 (.faddr 4 (.t 1)) 2011,o1 20 (.load 1 .false (.t 19)) 2012,o1 21 (.len (.t 20)) 2013,o1 22 (.mv (.k (.int .i64 0))) 2014]) (.block 0 (.loop (.seq (.reg 2015 1 [o1 23 (.bin .lss (.t 22) (.t 21)) 2015]) (.seq (.cond (.t 23) .skip (.exit 0)) (.seq (.block 1 (.seq (.reg 2016 4 [o1 24 (.iaddr 2 (.t 20) (.t 22)) 2016,o1 25 (.load 2 .true (.t 24)) 2017,o1 5 (.alloc 39 [.int .u16 0, .int .u16 0]) 2018,o2 (.store 2 (.t 5) (.t 25)) 2019]) (.seq (.reg 2020 3 [o1 26 .mkm 2020,o1 6 (.alloc 129 [.map .none]) 2021,o2 (.store 1 (.t 6) (.t 26)) 2022]) (.seq (.seq (.drawy 2023 10 11 [] [o3 27 (.mv (.t 3)) 2023,o3 28 (.nilc (.t 27)) 2024,o3 29 (.faddr 5 (.t 28)) 2025,o3 30 (.load 1 .false (.t 29)) 2026,o3 31 (.mv (.t 3)) 2027,o3 32 (.nilc (.t 31)) 2028,o3 33 (.faddr 6 (.t 32)) 2029,o3 34 (.load 1 .false (.t 33)) 2030,o3 35 (.iaddr 1 (.t 30) (.t 34)) 2031,o3 36 (.load 1 .false (.t 35)) 2032] [o1 37 (.rng (.t 36)) 2033]) (.block 2 (.loop (.seq (.reg 2034 2 [o1 38 (.nxt (.t 37)) 2034,o1 39 (.ext (.t 38) 0) 2035]) (.seq (.cond (.t 39) .skip (.exit 2)) (.block 3 (.seq (.reg 2036 4 [o1 40 (.ety (.t 37)) 2036,o1 41 (.ext (.t 40) 0) 2037,o1 7 (.alloc 124 [.int .i64 0, .int .i64 0, .int .i64 0, .bool .false]) 2038,o2 (.store 4 (.t 7) (.t 41)) 2039]) (.seq (.reg 2040 4 [o1 42 (.load 5 .true (.t 1)) 2040,o1 43 (.load 4 .true (.t 7)) 2041,o1 44 (.load 2 .true (.t 5)) 2042,o1 45 (.call 40 [.t 42, .t 43, .t 44]) 2043]) (.block 4 (.range (.t 45) [46,47] (.reg 2044 2 [o1 9 (.alloc 124 [.int .i64 0, .int .i64 0, .int .i64 0, .bool .false]) 2044,o2 (.store 4 (.t 9) (.t 47)) 2045]) (.block 5 (.reg 2046 3 [o1 48 (.load 1 .false (.t 6)) 2046,o1 49 (.load 4 .true (.t 9)) 2047,o2 (.mup 124 (.t 48) (.t 49) (.k (.bool .true))) 2048])))))))))))) (.seq (.seq (.reg 2049 3 [o1 50 (.load 1 .false (.t 6)) 2049,o1 51 (.lenM (.t 50)) 2050,o1 52 (.bin .eql (.t 51) (.k (.int .i64 0))) 2051]) (.cond (.t 52) (.seq (.reg 2052 2 [o1 53 (.mv (.t 3)) 2052,o1 2 (.mv (.t 53)) 2053]) .ret) .skip)) (.seq (.draw 2054 11 [] [] [o3 54 (.mv (.t 3)) 2054,o3 55 (.mv (.t 3)) 2055,o3 56 (.nilc (.t 55)) 2056,o3 57 (.faddr 5 (.t 56)) 2057,o3 58 (.load 1 .false (.t 57)) 2058,o3 59 (.load 1 .false (.t 6)) 2059,o3 60 (.bsl 129 1 1 [.map .none] [(0, .t 59)]) 2060, .mk (.some 61) (.apph
 129 1 8 (.t 58) (.t 60)) .none 2061 (.some [0,2060]) .true [] .true, .mk (.some 62) (.nilc (.t 54)) .none 2062 (.some [2060]) .true [] .false, .mk (.some 63) (.faddr 5 (.t 62))
 .none 2063 (.some [2060]) .true [] .false, .mk .none (.store 1 (.t 63) (.t 61)) .none 2064 (.some [2060]) .true [] .false]) (.reg 2065 8 [o1 64 (.mv (.t 3)) 2065,o1 65 (.nilc (.t 64)) 2066,o1 66 (.faddr 6 (.t 65)) 2067,o1 67 (.load 1 .false (.t 66)) 2068,o1 68 (.bin .add (.t 67) (.k (.int .i64 1))) 2069,o1 69 (.nilc (.t 64)) 2070,o1 70 (.faddr 6 (.t 69)) 2071,o2 (.store 1 (.t 70) (.t 68)) 2072]))))))) (.reg 2073 2 [o1 71 (.bin .add (.t 22) (.k (.int .i64 1))) 2073,o1 22 (.mv (.t 71)) 2074]))))))) (.seq (.seq (.reg 2075 6 [o1 72 (.mv (.t 3)) 2075,o1 73 (.nilc (.t 72)) 2076,o1 74 (.faddr 6 (.t 73)) 2077,o1 75 (.load 1 .false (.t 74)) 2078,o1 76 (.bin .sub (.t 75) (.k (.int .i64 1))) 2079,o1 10 (.mv (.t 76)) 2080]) (.block 6 (.loop (.seq (.seq (.reg 2081 2 [o1 77 (.mv (.t 10)) 2081,o1 78 (.bin .geq (.t 77) (.k (.int .i64 0))) 2082]) (.cond (.t 78) .skip (.exit 6))) (.seq
 (.block 7 (.seq (.reg 2083 8 [o1 81 (.mv (.t 3)) 2083,o1 82 (.nilc (.t 81)) 2084,o1 83 (.faddr 5 (.t 82)) 2085,o1 84 (.load 1 .false (.t 83)) 2086,o1 85 (.mv (.t 10)) 2087,o1 86 (.iaddr 1 (.t 84) (.t 85)) 2088,o1 87 (.load 1 .false (.t 86)) 2089,o1 88 (.rng (.t 87)) 2090]) (.block 8 (.loop (.seq (.reg 2091 2 [o1 89 (.nxt (.t 88)) 2091,o1 90 (.ext (.t 89) 0) 2092]) (.seq (.cond (.t 90) .skip (.exit 8)) (.block 9 (.seq (.reg 2093 4 [o1 91 (.ety (.t 88)) 2093,o1 92 (.ext (.t 91) 0) 2094,o1 11 (.alloc 124 [.int .i64 0, .int .i64 0, .int .i64 0, .bool .false]) 2095,o2 (.store 4 (.t 11) (.t 92)) 2096]) (.seq (.reg 2097 5 [o1 93 (.mv (.t 3)) 2097,o1 94 (.mv (.t 10)) 2098,o1 95 (.load 4 .true (.t 11)) 2099,o1 96 (.call 101 [.t 93, .t 94, .t 95]) 2100,o1 97 (.un .not (.t 96)) 2101]) (.cond (.t 97) (.draw 2102 9 [] [] [o3 98 (.mv (.t 3)) 2102,o3 99 (.nilc (.t 98)) 2103,o3 100 (.faddr 5 (.t 99)) 2104,
 o3 101 (.load 1 .false (.t 100)) 2105,o3 102 (.mv (.t 10)) 2106,o3 103 (.iaddr 1 (.t 101) (.t 102)) 2107,o3 104 (.load 1 .false (.t 103)) 2108,o3 105 (.load 4 .true (.t 11)) 2109,o4 (.del 124 (.t 104) (.t 105)) 2110]) .skip)))))))))) (.reg 2111 3 [o1 79 (.mv (.t 10)) 2111,o1 80 (.bin .sub (.t 79) (.k (.int .i64 1))) 2112,o1 10 (.mv (.t 80)) 2113])))))) (.seq (.reg 2114 2 [o1 106 (.mv (.t 3)) 2114,o1 2 (.mv (.t 106)) 2115]) .ret))))
def rs67:List IRes:=[.tmp 2]
set_option maxRecDepth 100000 in
theorem comp67:CompAt Try.prog 67 2000 ir67 rs67 107:=⟨⟨_,_,2116,Try.func67,rfl,by kernel_rfl,by kernel_rfl,rfl⟩⟩
theorem body67:HasBody Try.prog 67:=hasBody_of (by kernel_rfl)

def ir68:IC :=
 .seq (.reg 1000 1 [o1 2 (.mv (.k (.bool .false))) 1000]) (.seq (.draw 1001 12 [] [] [o3 3 (.mv (.t 0)) 1001,o3 4 (.nilc (.t 3)) 1002,o3 5 (.faddr 6 (.t 4)) 1003,o3 6 (.load 1 .false (.t 5)) 1004,o3 7 (.mv (.t 0)) 1005,o3 8 (.nilc (.t 7)) 1006,o3 9 (.faddr 0 (.t 8)) 1007,o3 10 (.faddr 4 (.t 9)) 1008,o3 11 (.load 1 .false (.t 10)) 1009,o3 12 (.len (.t 11)) 1010,o3 13 (.bin .eql (.t 6) (.t 12)) 1011,o3 2 (.mv (.t 13)) 1012]) .ret)
def rs68:List IRes:=[.tmp 2]
set_option maxRecDepth 100000 in
theorem comp68:CompAt Try.prog 68 1000 ir68 rs68 14:=⟨⟨_,_,1013,Try.func68,rfl,by kernel_rfl,by kernel_rfl,rfl⟩⟩
theorem body68:HasBody Try.prog 68:=hasBody_of (by kernel_rfl)

def ir38:IC :=
 .seq (.reg 1000 3 [o1 1 (.box 34 (.t 0)) 1000,o1 2 (.mv (.k (.pointer .none))) 1001,o1 3 (.mv (.k (.int .i64 0))) 1002]) (.seq (.seq (.reg 1003 3 [o1 6 (.load 5 .true (.t 1)) 1003,o1 7 (.call 66 [.t 6]) 1004,o1 4 (.mv (.t 7)) 1005]) (.seq (.reg 1006 2 [o1 8 (.mv (.t 4)) 1006,o1 9 (.bin .neq (.t 8) (.k (.int .i64 0))) 1007]) (.cond (.t 9) (.seq (.reg 1008 3 [o1 10 (.mv (.t 4)) 1008,o1 2 (.mv (.k (.pointer .none))) 1009,o1 3 (.mv (.t 10)) 1010]) .ret) .skip))) (.seq
 (.reg 1011 3 [o1 11 (.load 5 .true (.t 1)) 1011,o1 12 (.call 67 [.t 11]) 1012,o1 5 (.mv (.t 12)) 1013]) (.seq (.seq (.reg 1014 3 [o1 13 (.mv (.t 5)) 1014,o1 14 (.call 68 [.t 13]) 1015,o1 15 (.un .not (.t 14)) 1016]) (.cond (.t 15) (.seq (.reg 1017 3 [o1 16 (.mv (.t 5)) 1017,o1 2 (.mv (.t 16)) 1018,o1 3 (.mv (.k (.int .i64 10))) 1019]) .ret) .skip)) (.seq
 (.reg 1020 3 [o1 17 (.mv (.t 5)) 1020,o1 2 (.mv (.t 17)) 1021,o1 3 (.mv (.k (.int .i64 0))) 1022]) .ret))))
def rs38:List IRes:=[.tmp 2, .tmp 3]
set_option maxRecDepth 100000 in
theorem comp38:CompAt Try.prog 38 1000 ir38 rs38 18:=⟨⟨_,_,1023,Try.func38,rfl,by kernel_rfl,by kernel_rfl,rfl⟩⟩
theorem body38:HasBody Try.prog 38:=hasBody_of (by kernel_rfl)

def ir12:IC :=
 .seq (.reg 1000 3 [o1 1 (.box 34 (.t 0)) 1000,o1 2 (.mv (.k (.slice .none 0 0))) 1001,o1 3 (.mv (.k (.int .i64 0))) 1002]) (.seq (.reg 1003 8 [o1 13 (.load 5 .true (.t 1)) 1003,o1 14 (.call 38 [.t 13]) 1004,o1 12 (.mv (.t 14)) 1005,o1 15 (.ext (.t 12) 0) 1006,o1 16 (.ext (.t 12) 1) 1007,o1 4 (.alloc 120 [.pointer .none]) 1008,o2 (.store 1 (.t 4) (.t 15)) 1009,o1 5 (.mv (.t 16)) 1010]) (.seq (.seq (.reg 1011 2 [o1 17 (.mv (.t 5)) 1011,o1 18 (.bin .neq (.t 17) (.k (.int .i64 0))) 1012]) (.cond (.t 18) (.seq (.reg 1013 3 [o1 19 (.mv (.t 5)) 1013,o1 2 (.mv (.k (.slice .none 0 0))) 1014,o1 3 (.mv (.t 19)) 1015]) .ret) .skip))
 (.seq (.reg 1016 1 [o1 6 (.alloc 40 [.slice .none 0 0]) 1016]) (.seq (.reg 1017 3 [o1 20 (.call 39 []) 1017,o1 7 (.alloc 124 [.int .i64 0, .int .i64 0, .int .i64 0, .bool .false]) 1018,o2 (.store 4 (.t 7) (.t 20)) 1019]) (.seq (.seq (.reg 1020 4 [o1 21 (.faddr 4 (.t 1)) 1020,o1 22 (.load 1 .false (.t 21)) 1021,o1 23 (.len (.t 22)) 1022,o1 24 (.mv (.k (.int .i64 0))) 1023]) (.block 0 (.loop (.seq (.reg
 1024 1 [o1 25 (.bin .lss (.t 24) (.t 23)) 1024]) (.seq (.cond (.t 25) .skip (.exit 0)) (.seq (.block 1 (.seq (.reg 1025 7 [o1 26 (.mv (.t 24)) 1025,o1 27 (.iaddr 2 (.t 22) (.t 24)) 1026,o1 28 (.load 2 .true (.t 27)) 1027,o1 8 (.alloc 3 [.int .i64 0]) 1028,o1 9 (.alloc 39 [.int .u16 0, .int .u16 0]) 1029,o2 (.store 1 (.t 8) (.t 26)) 1030,o2 (.store 2 (.t 9) (.t 28)) 1031]) (.seq (.reg 1032 4 [o1 29 (.load 5 .true (.t 1)) 1032,o1 30 (.load 4 .true (.t 7)) 1033,o1 31 (.load 2 .true (.t 9)) 1034,o1 32 (.call 40 [.t 29, .t 30, .t 31]) 1035]) (.block 2 (.range (.t 32) [33,34] (.seq (.reg 1036 2 [o1 10 (.alloc 58 [.int .i64 0, .int .i64 0]) 1036,o2 (.store 2 (.t 10) (.t 33)) 1037]) (.reg 1038 2 [o1 11 (.alloc 124 [.int .i64 0, .int .i64 0, .int .i64 0, .bool .false]) 1038,o2 (.store 4 (.t 11) (.t 34)) 1039])) (.block 3 (.seq (.draw 1040 10 [] [] [o3 35 (.load 1 .false (.t 4)) 1040,o3 36 (.nilc (.t 35)) 1041,o3 37 (.faddr 5 (.t 36)) 1042,o3 38 (.load 1 .false (.t 37)) 1043,o3 39 (.load 1 .false (.t 8)) 1044,o3 40 (.bin .add (.t 39) (.k (.int .i64 1))) 1045,o3 41 (.iaddr 1 (.t 38) (.t 40)) 1046,o3 42 (.load 1 .false (.t 41)) 1047,o3 43 (.load 4 .true (.t 11)) 1048,o3 44 (.lkp 124 (.bool .false) .false (.t 42) (.t 43)) 1049]) (.cond (.t 44) (.seq (.drawd
 1050 7 [] [] [] [.some [6], .some [10], .none, .none, .some [11], .some [6], .some [7]] [(0,o3 45 (.load 1 .false (.t 6)) 1050),(1,o3 46 (.load 2 .true (.t 10)) 1051),(2, .mk (.some 47) (.bsl 58 2 1 [.int .i64 0, .int .i64 0] [(0, .t 46)]) .none 1052 (.some []) .true [1]
 .false),(3, .mk (.some 48) (.apph 58 2 16 (.t 45) (.t 47)) .none 1053 (.some [0,1052]) .true [1,2,0] .true),(4,o3 49 (.load 4 .true (.t 11)) 1054),(5, .mk .none (.store 1 (.t 6) (.t 48)) .none 1055 (.some [1052]) .true [0,2,1,3] .false),(6, .mk .none (.store 4 (.t 7) (.t 49)) .none 1056 (.some [1052])
 .true [3,1,2,0,5,4] .false)]) (.exit 2)) .skip)))))))) (.reg 1057 2 [o1 50 (.bin .add (.t 24) (.k (.int .i64 1))) 1057,o1 24 (.mv (.t 50)) 1058]))))))) (.seq (.reg 1059 3 [o1 51 (.load 1 .false (.t 6)) 1059,o1 2 (.mv (.t 51)) 1060,o1 3 (.mv (.k (.int .i64 0))) 1061]) .ret))))))
def rs12:List IRes:=[.tmp 2, .tmp 3]
set_option maxRecDepth 100000 in
theorem comp12:CompAt Try.prog 12 1000 ir12 rs12 52:=⟨⟨_,_,1062,Try.func12,rfl,by kernel_rfl,by kernel_rfl,rfl⟩⟩
theorem body12:HasBody Try.prog 12:=hasBody_of (by kernel_rfl)

def ir13:IC :=
 .seq (.reg 1000 3 [o1 1 (.box 34 (.t 0)) 1000,o1 2 (.mv (.k (.slice .none 0 0))) 1001,o1 3 (.mv (.k (.int .i64 0))) 1002]) (.seq (.reg 1003 8 [o1 13 (.load 5 .true (.t 1)) 1003,o1 14 (.call 38 [.t 13]) 1004,o1 12 (.mv (.t 14)) 1005,o1 15 (.ext (.t 12) 0) 1006,o1 16 (.ext (.t 12) 1) 1007,o1 4 (.alloc 120 [.pointer .none]) 1008,o2 (.store 1 (.t 4) (.t 15)) 1009,o1 5 (.mv (.t 16)) 1010]) (.seq (.seq (.reg 1011 2 [o1 17 (.mv (.t 5)) 1011,o1 18 (.bin .neq (.t 17) (.k (.int .i64 0))) 1012]) (.cond (.t 18) (.seq (.reg 1013 3 [o1 19 (.mv (.t 5)) 1013,o1 2 (.mv (.k (.slice .none 0 0))) 1014,o1 3 (.mv (.t 19)) 1015]) .ret) .skip))
 (.seq (.reg 1016 6 [o1 20 (.faddr 4 (.t 1)) 1016,o1 21 (.load 1 .false (.t 20)) 1017,o1 22 (.len (.t 21)) 1018,o1 23 (.mks 59 2 4 [.int .u16 0, .int .u16 0] (.t 22)) 1019,o1 6 (.alloc 44 [.slice .none 0 0]) 1020,o2 (.store 1 (.t 6) (.t 23)) 1021]) (.seq (.seq (.reg 1022 4 [o1 24 (.faddr 4 (.t 1)) 1022,o1 25 (.load 1 .false (.t 24)) 1023,o1 26 (.len (.t 25)) 1024,o1 27 (.mv (.k (.int .i64 0))) 1025]) (.block 0 (.loop (.seq (.reg 1026 1 [o1 28 (.bin .lss (.t 27) (.t 26)) 1026]) (.seq (.cond (.t 28) .skip (.exit 0)) (.seq (.block 1 (.seq (.reg 1027 7 [o1 29 (.mv (.t 27)) 1027,o1 30 (.iaddr 2 (.t 25) (.t 27)) 1028,o1 31 (.load 2 .true (.t 30)) 1029,o1 7 (.alloc 3 [.int .i64 0]) 1030,o1 8 (.alloc 39 [.int .u16 0, .int .u16 0]) 1031,o2 (.store 1 (.t 7) (.t 29)) 1032,o2 (.store 2 (.t 8) (.t 31)) 1033]) (.seq (.drawy 1034 7 8 [] [o3 32 (.load 1 .false (.t 4)) 1034,o3 33 (.nilc (.t 32)) 1035,o3 34 (.faddr 5 (.t 33)) 1036,o3 35 (.load 1 .false (.t 34)) 1037,o3 36 (.load 1 .false (.t 7)) 1038,o3 37 (.iaddr 1 (.t 35) (.t 36)) 1039,o3 38 (.load 1 .false (.t 37)) 1040] [o1 39 (.rng (.t 38)) 1041]) (.block 2 (.loop (.seq (.reg 1042 2 [o1 40 (.nxt (.t 39)) 1042,o1 41 (.ext (.t 40) 0) 1043]) (.seq (.cond (.t 41) .skip (.exit 2)) (.block 3 (.seq (.reg 1044 4 [o1 42 (.ety (.t 39)) 1044,o1 43 (.ext (.t 42) 0) 1045,o1 9 (.alloc 124 [.int .i64 0, .int .i64 0, .int .i64 0, .bool .false]) 1046,o2 (.store 4 (.t 9) (.t 43)) 1047]) (.seq (.reg 1048 4 [o1 44 (.load 5 .true (.t 1)) 1048,o1 45 (.load 4 .true (.t 9)) 1049,o1 46 (.load 2 .true (.t 8)) 1050,o1 47 (.call 40 [.t 44, .t 45, .t 46]) 1051]) (.block 4 (.range (.t 47) [48,49] (.seq (.reg 1052 2 [o1 10 (.alloc 58 [.int .i64 0, .int .i64 0]) 1052,o2 (.store 2 (.t 10) (.t 48)) 1053]) (.reg 1054 2 [o1 11 (.alloc 124 [.int .i64 0, .int .i64 0, .int .i64 0, .bool .false]) 1054,
 o2 (.store 4 (.t 11) (.t 49)) 1055])) (.block 5 (.seq (.draw 1056 10 [] [] [o3 50 (.load 1 .false (.t 4)) 1056,o3 51 (.nilc (.t 50)) 1057,o3 52 (.faddr 5 (.t 51)) 1058,o3 53 (.load 1 .false (.t 52)) 1059,o3 54 (.load 1 .false (.t 7)) 1060,o3 55 (.bin .add (.t 54) (.k (.int .i64 1))) 1061,o3 56 (.iaddr 1 (.t 53) (.t 55)) 1062,o3 57 (.load 1 .false (.t 56)) 1063,o3 58 (.load 4 .true (.t 11)) 1064,o3 59 (.lkp 124 (.bool .false) .false (.t 57) (.t 58)) 1065]) (.cond (.t 59) (.seq (.draw 1066 12 [10] [] [o3 60 (.load 1 .false (.t 6)) 1066,o3 61 (.load 1 .false (.t 7)) 1067,o3 62 (.iaddr 2 (.t 60) (.t 61)) 1068,o3 63 (.faddr 0 (.t 62)) 1069,o3 64 (.load 1 .false (.t 63)) 1070,o3 65 (.faddr 0 (.t 10)) 1071,o3 66 (.load 1 .false (.t 65)) 1072,o3 67 (.call 41 [.t 66]) 1073, .mk (.some 68)
 (.pur (.bin .or 37) [.t 64, .t 67]) .none 1074 (.some [1073]) .true [] .false, .mk (.some 69) (.iaddr 2 (.t 60) (.t 61)) .none 1075 (.some [1073]) .true [] .false, .mk (.some 70)
 (.faddr 0 (.t 69)) .none 1076 (.some [1073]) .true [] .false, .mk .none (.store 1 (.t 70) (.t 68)) .none 1077 (.some [1073]) .true [] .false]) (.draw 1078 12 [10] [] [o3 71 (.load 1 .false (.t 6)) 1078,o3 72 (.load 1 .false (.t 7)) 1079,o3 73 (.iaddr 2 (.t 71) (.t 72)) 1080,o3 74 (.faddr 1 (.t 73)) 1081,o3 75 (.load 1 .false (.t 74)) 1082,o3 76 (.faddr 1 (.t 10)) 1083,o3 77 (.load 1 .false (.t 76)) 1084,o3 78 (.call 41 [.t 77]) 1085, .mk (.some 79) (.pur (.bin .or 37) [.t 75, .t 78]) .none 1086 (.some [1085]) .true [] .false, .mk (.some 80)
 (.iaddr 2 (.t 71) (.t 72)) .none 1087 (.some [1085]) .true [] .false, .mk (.some 81) (.faddr 1 (.t 80)) .none 1088 (.some [1085]) .true [] .false, .mk .none (.store 1 (.t 81) (.t
 79)) .none 1089 (.some [1085]) .true [] .false])) .skip))))))))))))))) (.reg 1090 2 [o1 82 (.bin .add (.t 27) (.k (.int .i64 1))) 1090,o1 27 (.mv (.t 82)) 1091]))))))) (.seq (.reg 1092 3 [o1 83 (.load 1 .false (.t 6)) 1092,o1 2 (.mv (.t 83)) 1093,o1 3 (.mv (.k (.int .i64 0))) 1094]) .ret)))))
def rs13:List IRes:=[.tmp 2, .tmp 3]
set_option maxRecDepth 100000 in
theorem comp13:CompAt Try.prog 13 1000 ir13 rs13 84:=⟨⟨_,_,1095,Try.func13,rfl,by kernel_rfl,by kernel_rfl,rfl⟩⟩
theorem body13:HasBody Try.prog 13:=hasBody_of (by kernel_rfl)

def ir101:IC :=
 .seq (.reg 1000 4 [o1 3 (.box 120 (.t 0)) 1000,o1 4 (.box 3 (.t 1)) 1001,o1 5 (.box 124 (.t 2)) 1002,o1 6 (.alloc 4 [.bool .false]) 1003]) (.seq (.seq (.draw 1004 14 [5,3] [] [o3 9 (.load 1 .false (.t 3)) 1004,o3 10 (.nilc (.t 9)) 1005,o3 11 (.faddr 0 (.t 10)) 1006,o3 12 (.load 5 .true (.t 11)) 1007,o3 13 (.load 4 .true (.t 5)) 1008,o3 14 (.load 1 .false (.t 3)) 1009,o3 15 (.nilc (.t 14)) 1010,o3 16 (.faddr 0 (.t 15)) 1011,o3 17 (.faddr 4 (.t 16)) 1012,o3 18 (.load 1 .false (.t 17)) 1013,o3 19 (.load 1 .false (.t 4)) 1014,o3 20 (.iaddr 2 (.t 18) (.t 19)) 1015,o3 21 (.load 2 .true (.t 20)) 1016,o3 22 (.call 40 [.t 12, .t 13, .t 21]) 1017]) (.block 0 (.range
 (.t 22) [23,24] (.reg 1018 2 [o1 8 (.alloc 124 [.int .i64 0, .int .i64 0, .int .i64 0, .bool .false]) 1018,o2 (.store 4 (.t 8) (.t 24)) 1019]) (.block 1 (.seq (.draw 1020 10 [] [] [o3 25 (.load 1 .false (.t 3)) 1020,o3 26 (.nilc (.t 25)) 1021,o3 27 (.faddr 5 (.t 26)) 1022,o3 28 (.load 1 .false (.t 27)) 1023,o3 29 (.load 1 .false (.t 4)) 1024,o3 30 (.bin .add (.t 29) (.k (.int .i64 1))) 1025,o3 31 (.iaddr 1 (.t 28) (.t 30)) 1026,o3 32 (.load 1 .false (.t 31)) 1027,
 o3 33 (.load 4 .true (.t 8)) 1028,o3 34 (.lkp 124 (.bool .false) .false (.t 32) (.t 33)) 1029]) (.cond (.t 34) (.seq (.reg 1030 1 [o2 (.store 1 (.t 6) (.k (.bool .true))) 1030]) .ret) .skip)))))) (.seq (.reg 1031 1 [o2 (.store 1 (.t 6) (.k (.bool .false))) 1031]) .ret))
def rs101:List IRes:=[.cell 6 1 .false]
set_option maxRecDepth 100000 in
theorem comp101:CompAt Try.prog 101 1000 ir101 rs101 35:=⟨⟨_,_,1032,Try.func101,rfl,by kernel_rfl,by kernel_rfl,rfl⟩⟩
theorem body101:HasBody Try.prog 101:=hasBody_of (by kernel_rfl)

end Go.Proofs.Ytefnikpoimaiiaa

namespace Go.Proofs.Ytefnikpoimaiiaa
open Go.Pal
def ir3:IC :=
 .seq (.reg 1000 3 [o1 2 (.box 24 (.t 0)) 1000,o1 3 (.box 27 (.t 1)) 1001,o1 4 (.mv (.k (.bool .false))) 1002]) (.seq (.seq (.reg 1003 20 [o1 18 (.faddr 1 (.t 2)) 1003,o1 19 (.load 1 .false (.t 18)) 1004,o1 20 (.len (.t 19)) 1005,o1 21 (.bin .gtr (.t 20) (.k (.int .i64 60))) 1006,o1 22 (.mv (.t 21)) 1007, .mk (.some 23) (.load 5 .true (.t 3)) (.some (22, .false)) 1008 .none .false [] .false, .mk
 (.some 24) (.call 6 [.t 23]) (.some (22, .false)) 1009 .none .false [] .false, .mk (.some 25) (.un .not (.t 24)) (.some (22, .false)) 1010 .none .false [] .false,o1 26 (.pick (.t 22) (.k (.bool .true)) (.t 25)) 1011,o1 27 (.mv (.t 26)) 1012, .mk (.some 28) (.load 5 .true (.t 3))
 (.some (27, .false)) 1013 .none .false [] .false, .mk (.some 29) (.call 7 [.t 28]) (.some (27, .false)) 1014 .none .false [] .false, .mk (.some 30) (.bin .neq (.t 29) (.k (.int
 .i64 0))) (.some (27, .false)) 1015 .none .false [] .false,o1 31 (.pick (.t 27) (.k (.bool .true)) (.t 30)) 1016,o1 32 (.mv (.t 31)) 1017, .mk (.some 33) (.faddr 4 (.t 3)) (.some (32, .false)) 1018 .none .false [] .false, .mk (.some 34) (.load 1 .false (.t 33)) (.some (32,
 .false)) 1019 .none .false [] .false, .mk (.some 35) (.len (.t 34)) (.some (32, .false)) 1020 .none .false [] .false, .mk (.some 36) (.bin .eql (.t 35) (.k (.int .i64 0))) (.some
 (32, .false)) 1021 .none .false [] .false,o1 37 (.pick (.t 32) (.k (.bool .true)) (.t 36)) 1022]) (.cond (.t 37) (.seq (.reg 1023 2 [o1 38 (.call 8 []) 1023,o1 4 (.mv (.t 38)) 1024]) .ret) .skip)) (.seq (.reg 1025 5 [o1 39 (.faddr 4 (.t 3)) 1025,o1 40 (.load 1 .false (.t 39)) 1026,o1 41 (.len (.t 40)) 1027,o1 42 (.faddr 0 (.t 2)) 1028,o2 (.store 1 (.t 42) (.t 41)) 1029]) (.seq (.seq (.reg 1030 3 [o1 43 (.load 4 .true (.t 2)) 1030,o1 44 (.call 9 [.t 43]) 1031,o1 45 (.bin .neq (.t 44) (.k (.int .i64 0))) 1032]) (.cond (.t 45) (.seq (.reg 1033 2 [o1 46 (.call 8 []) 1033,o1 4 (.mv (.t 46)) 1034]) .ret) .skip)) (.seq (.reg 1035 4 [o1 47 (.load 5 .true (.t 3)) 1035,o1 48 (.call 10 [.t 47]) 1036,o1 5 (.alloc 34 [.int .i64 0, .int .i64 0, .int .i64 0, .int .i64 0, .slice .none 0 0]) 1037,o2 (.store 5 (.t 5) (.t 48)) 1038]) (.seq (.seq (.reg 1039 1 [o1 6 (.mv (.k (.int .i64 0))) 1039]) (.block 0 (.loop
 (.seq (.seq (.reg 1040 5 [o1 49 (.mv (.t 6)) 1040,o1 50 (.faddr 4 (.t 5)) 1041,o1 51 (.load 1 .false (.t 50)) 1042,o1 52 (.len (.t 51)) 1043,o1 53 (.bin .lss (.t 49) (.t 52)) 1044]) (.cond (.t 53) .skip (.exit 0))) (.seq (.block 1 (.seq (.reg 1045 3 [o1 56 (.load 4 .true (.t 2)) 1045,o1 57 (.mv (.t 6)) 1046,o1 58 (.call 11 [.t 56, .t 57]) 1047]) (.cond (.t 58) (.reg 1048 6 [o1 59 (.faddr 4 (.t 5)) 1048,o1 60 (.load 1 .false (.t 59)) 1049,o1 61 (.mv (.t 6)) 1050,o1 62 (.bld [(0,1),(1,1)] [.int .u16 0, .int .u16 0] [(0, .k (.int .u16 32768)),(1, .k (.int .u16 32768))]) 1051,o1 63 (.iaddr 2 (.t 60) (.t 61)) 1052,o2 (.store 2 (.t 63) (.t 62)) 1053]) .skip))) (.reg 1054 3 [o1 54 (.mv (.t 6)) 1054,o1 55 (.bin .add (.t 54) (.k (.int .i64 1))) 1055,o1 6 (.mv (.t 55)) 1056])))))) (.seq (.reg 1057 7 [o1 65 (.load 5 .true (.t 5)) 1057,o1 66 (.call 12 [.t 65]) 1058,o1 64 (.mv (.t 66)) 1059,o1 67 (.ext (.t 64) 0) 1060,o1 68 (.ext (.t 64) 1) 1061,o1 7 (.mv (.t 67)) 1062,o1 8 (.mv (.t 68)) 1063]) (.seq (.reg 1064 7 [o1 70 (.load 5 .true (.t 5)) 1064,o1 71 (.call 13 [.t 70]) 1065,o1 69 (.mv (.t 71)) 1066,o1 72 (.ext (.t 69) 0) 1067,o1 73 (.ext (.t 69) 1) 1068,o1 9 (.mv (.t 72)) 1069,o1 10 (.mv (.t 73)) 1070]) (.seq (.reg 1071 8 [o1 75 (.load 4 .true (.t 2)) 1071,o1 76 (.call 15 [.t 75]) 1072,o1 77 (.call 14 [.t 76]) 1073,o1 74 (.mv (.t 77)) 1074,o1 78 (.ext (.t 74) 0) 1075,o1 79 (.ext (.t 74) 1) 1076,o1 11 (.mv (.t 78)) 1077,o1 12 (.mv (.t 79)) 1078]) (.seq (.seq (.reg 1079 7 [o1 80 (.mv (.t 12)) 1079,o1 81 (.bin .neq (.t 80) (.k (.int .i64 0))) 1080,o1 82 (.mv (.t 81)) 1081, .mk (.some 83) (.mv (.t 8)) (.some (82, .false)) 1082 .none .false [] .false, .mk (.some 84) (.mv (.t 10)) (.some (82, .false)) 1083 .none .false []
 .false, .mk (.some 85) (.bin .neq (.t 83) (.t 84)) (.some (82, .false)) 1084 .none .false [] .false,o1 86 (.pick (.t 82) (.k (.bool .true)) (.t 85)) 1085]) (.cond (.t 86) (.seq (.reg 1086 1 [o1 4 (.mv (.k (.bool .false))) 1086]) .ret) .skip)) (.seq (.seq (.reg 1087 2 [o1 87 (.mv (.t 8)) 1087,o1 88 (.bin .neq (.t 87) (.k (.int .i64 0))) 1088]) (.cond (.t 88) (.seq (.reg
 1089 6 [o1 89 (.mv (.t 8)) 1089,o1 90 (.bin .eql (.t 89) (.k (.int .i64 10))) 1090,o1 91 (.mv (.t 90)) 1091, .mk (.some 92) (.call 8 []) (.some (91, .true)) 1092 .none .false [] .false,o1 93 (.pick (.t 91) (.t 92) (.k (.bool .false))) 1093,o1 4 (.mv (.t 93)) 1094]) .ret) .skip)) (.seq (.seq (.reg 1095 12 [o1 94 (.mv (.t 7)) 1095,o1 95 (.len (.t 94)) 1096,o1 96 (.faddr 0 (.t 2)) 1097,o1 97 (.load 1 .false (.t 96)) 1098,o1 98 (.bin .neq (.t 95) (.t 97)) 1099,o1 99 (.mv (.t 98)) 1100, .mk (.some 100) (.mv (.t 9)) (.some (99, .false)) 1101 .none .false [] .false, .mk (.some 101) (.len (.t 100)) (.some (99, .false)) 1102 .none .false
 [] .false, .mk (.some 102) (.faddr 0 (.t 2)) (.some (99, .false)) 1103 .none .false [] .false, .mk (.some 103) (.load 1 .false (.t 102)) (.some (99, .false)) 1104 .none .false []
 .false, .mk (.some 104) (.bin .neq (.t 101) (.t 103)) (.some (99, .false)) 1105 .none .false [] .false,o1 105 (.pick (.t 99) (.k (.bool .true)) (.t 104)) 1106]) (.cond (.t 105) (.seq (.reg 1107 1 [o1 4 (.mv (.k (.bool .false))) 1107]) .ret) .skip)) (.seq (.reg 1108 1 [o1 13 (.mv (.k (.int .i64 0))) 1108]) (.seq (.seq (.reg 1109 1 [o1 14 (.mv (.k (.int .i64 0))) 1109])
 (.block 2 (.loop (.seq (.seq (.reg 1110 4 [o1 106 (.mv (.t 14)) 1110,o1 107 (.mv (.t 11)) 1111,o1 108 (.len (.t 107)) 1112,o1 109 (.bin .lss (.t 106) (.t 108)) 1113]) (.cond (.t 109) .skip (.exit 2)))
 (.seq (.block 3 (.draw 1114 14 [] [] [o3 112 (.mv (.t 13)) 1114,o3 113 (.mv (.t 11)) 1115,o3 114 (.mv (.t 14)) 1116,o3 115 (.iaddr 2 (.t 113) (.t 114)) 1117,o3 116 (.faddr 1 (.t 115)) 1118,o3 117 (.load 1 .false (.t 116)) 1119,o3 118 (.mv (.t 11)) 1120,o3 119 (.mv (.t 14)) 1121,o3 120 (.iaddr 2 (.t 118) (.t 119)) 1122,o3 121 (.faddr 0 (.t 120)) 1123,o3 122 (.load 1 .false (.t 121)) 1124,o3 123 (.bin .sub (.t 117) (.t 122)) 1125,o3 124 (.bin .add (.t 112) (.t 123)) 1126,o3 13 (.mv (.t 124)) 1127])) (.reg 1128 3 [o1 110 (.mv (.t 14)) 1128,o1 111 (.bin .add (.t 110) (.k (.int .i64 1))) 1129,o1 14 (.mv (.t 111)) 1130])))))) (.seq (.seq (.reg 1131 1 [o1 15 (.mv (.k (.int .i64 0))) 1131]) (.block 4 (.loop (.seq (.seq (.reg 1132 4 [o1 125 (.mv (.t 15)) 1132,o1 126 (.faddr 0 (.t 2)) 1133,o1 127 (.load 1 .false (.t 126)) 1134,o1 128 (.bin .lss (.t 125) (.t 127)) 1135]) (.cond (.t 128) .skip (.exit 4))) (.seq (.block 5 (.seq (.reg 1136 9 [o1 132 (.load 4 .true (.t 2)) 1136,o1 133 (.call 15 [.t 132]) 1137,o1 134 (.mv (.t 15)) 1138,o1 135 (.call 16 [.t 133, .t 134]) 1139,o1 131 (.mv (.t 135)) 1140,o1 136 (.ext (.t 131) 0) 1141,o1 137 (.ext (.t 131) 1) 1142,o1 16 (.mv (.t 136)) 1143,o1 17 (.mv (.t 137)) 1144]) (.seq (.seq
 (.reg 1145 3 [o1 138 (.load 4 .true (.t 2)) 1145,o1 139 (.mv (.t 15)) 1146,o1 140 (.call 11 [.t 138, .t 139]) 1147]) (.cond (.t 140) (.seq (.seq (.reg 1148 18 [o1 141 (.mv (.t 17)) 1148,o1 142 (.bin .neq (.t 141) (.k (.int .i64 7))) 1149,o1 143 (.mv (.t 142)) 1150, .mk (.some 144) (.mv (.t 7)) (.some
 (143, .false)) 1151 .none .false [] .false, .mk (.some 145) (.mv (.t 15)) (.some (143, .false)) 1152 .none .false [] .false, .mk (.some 146) (.iaddr 2 (.t 144) (.t 145)) (.some
 (143, .false)) 1153 .none .false [] .false, .mk (.some 147) (.load 2 .true (.t 146)) (.some (143, .false)) 1154 .none .false [] .false, .mk (.some 148) (.bld [(0,1),(1,1)]
 [.int .i64 0, .int .i64 0] [(0, .k (.int .i64 (-1))),(1, .k (.int .i64 (-1)))]) (.some (143, .false)) 1155 .none .false [] .false, .mk (.some 149) (.pur (.bin .neq 58) [.t 147,
 .t 148]) (.some (143, .false)) 1156 .none .false [] .false,o1 150 (.pick (.t 143) (.k (.bool .true)) (.t 149)) 1157,o1 151 (.mv (.t 150)) 1158, .mk (.some 152) (.mv (.t 9)) (.some (151, .false)) 1159 .none .false [] .false, .mk (.some 153) (.mv (.t 15)) (.some (151, .false))
 1160 .none .false [] .false, .mk (.some 154) (.iaddr 2 (.t 152) (.t 153)) (.some (151, .false)) 1161 .none .false [] .false, .mk (.some 155) (.load 2 .true (.t 154)) (.some (151,
 .false)) 1162 .none .false [] .false, .mk (.some 156) (.bld [(0,1),(1,1)] [.int .u16 0, .int .u16 0] [(0, .k (.int .u16 32768)),(1, .k (.int .u16 32768))]) (.some (151,
 .false)) 1163 .none .false [] .false, .mk (.some 157) (.pur (.bin .neq 59) [.t 155, .t 156]) (.some (151, .false)) 1164 .none .false [] .false,o1 158 (.pick (.t 151) (.k (.bool .true)) (.t 157)) 1165]) (.cond (.t 158) (.seq (.reg 1166 1 [o1 4 (.mv (.k (.bool .false))) 1166]) .ret)
 .skip)) (.exit 5)) .skip)) (.seq (.seq (.reg 1167 30 [o1 159 (.mv (.t 17)) 1167,o1 160 (.bin .neq (.t 159) (.k (.int .i64 0))) 1168,o1 161 (.mv (.t 160)) 1169, .mk (.some 162) (.mv (.t 16)) (.some (161, .false)) 1170 .none .false []
 .false, .mk (.some 163) (.bin .lss (.t 162) (.k (.int .i64 0))) (.some (161, .false)) 1171 .none .false [] .false,o1 164 (.pick (.t 161) (.k (.bool .true)) (.t 163)) 1172,o1 165 (.mv (.t 164)) 1173, .mk (.some 166) (.mv (.t 16)) (.some (165, .false)) 1174 .none .false []
 .false, .mk (.some 167) (.mv (.t 11)) (.some (165, .false)) 1175 .none .false [] .false, .mk (.some 168) (.len (.t 167)) (.some (165, .false)) 1176 .none .false [] .false, .mk
 (.some 169) (.bin .geq (.t 166) (.t 168)) (.some (165, .false)) 1177 .none .false [] .false,o1 170 (.pick (.t 165) (.k (.bool .true)) (.t 169)) 1178,o1 171 (.mv (.t 170)) 1179, .mk (.some 172) (.mv (.t 15)) (.some (171, .false)) 1180 .none .false [] .false, .mk (.some 173) (.mv
 (.t 11)) (.some (171, .false)) 1181 .none .false [] .false, .mk (.some 174) (.mv (.t 16)) (.some (171, .false)) 1182 .none .false [] .false, .mk (.some 175) (.iaddr 2 (.t 173) (.t
 174)) (.some (171, .false)) 1183 .none .false [] .false, .mk (.some 176) (.faddr 0 (.t 175)) (.some (171, .false)) 1184 .none .false [] .false, .mk (.some 177) (.load 1 .false (.t
 176)) (.some (171, .false)) 1185 .none .false [] .false, .mk (.some 178) (.bin .lss (.t 172) (.t 177)) (.some (171, .false)) 1186 .none .false [] .false,o1 179 (.pick (.t 171) (.k (.bool .true)) (.t 178)) 1187,o1 180 (.mv (.t 179)) 1188, .mk (.some 181) (.mv (.t 15)) (.some
 (180, .false)) 1189 .none .false [] .false, .mk (.some 182) (.mv (.t 11)) (.some (180, .false)) 1190 .none .false [] .false, .mk (.some 183) (.mv (.t 16)) (.some (180, .false))
 1191 .none .false [] .false, .mk (.some 184) (.iaddr 2 (.t 182) (.t 183)) (.some (180, .false)) 1192 .none .false [] .false, .mk (.some 185) (.faddr 1 (.t 184)) (.some (180,
 .false)) 1193 .none .false [] .false, .mk (.some 186) (.load 1 .false (.t 185)) (.some (180, .false)) 1194 .none .false [] .false, .mk (.some 187) (.bin .geq (.t 181) (.t 186))
 (.some (180, .false)) 1195 .none .false [] .false,o1 188 (.pick (.t 180) (.k (.bool .true)) (.t 187)) 1196]) (.cond (.t 188) (.seq (.reg
 1197 1 [o1 4 (.mv (.k (.bool .false))) 1197]) .ret) .skip)) (.seq (.reg 1198 6 [o1 189 (.mv (.t 7)) 1198,o1 190 (.mv (.t 15)) 1199,o1 191 (.iaddr 2 (.t 189) (.t 190)) 1200,o1 192 (.faddr 0 (.t 191)) 1201,o1 193 (.load 1 .false (.t 192)) 1202,o1 194 (.bin .geq (.t 193) (.k (.int .i64 0))) 1203]) (.cond (.t 194) (.reg 1204 3 [o1 195 (.mv (.t 13)) 1204,o1 196 (.bin .sub (.t 195) (.k (.int .i64 1))) 1205,o1 13 (.mv (.t 196)) 1206]) .skip)))))) (.reg 1207 3 [o1 129 (.mv (.t 15)) 1207,o1 130 (.bin .add (.t 129) (.k (.int .i64 1))) 1208,o1 15 (.mv (.t 130)) 1209])))))) (.seq (.reg 1210 6 [o1 197 (.mv (.t 13)) 1210,o1 198 (.bin .geq (.t 197) (.k (.int .i64 0))) 1211,o1 199 (.mv (.t 198)) 1212, .mk (.some 200) (.call 8 []) (.some (199, .true)) 1213 .none .false [] .false,o1 201 (.pick (.t 199) (.t 200) (.k (.bool .false))) 1214,o1 4 (.mv (.t 201)) 1215]) .ret)))))))))))))))
def rs3:List IRes:=[.tmp 4]
set_option maxRecDepth 100000 in
theorem comp3:CompAt Try.prog 3 1000 ir3 rs3 202:=⟨⟨_,_,1216,Try.func3,rfl,by kernel_rfl,by kernel_rfl,rfl⟩⟩
def ir6:IC :=
 .seq (.reg 0 2 [o1 1 (.box 27 (.t 0)) 0,o1 2 (.mv (.k (.bool .false))) 1]) (.seq (.reg 2 5 [o1 3 (.faddr 4 (.t 1)) 2,o1 4 (.load 1 .false (.t 3)) 3,o1 5 (.len (.t 4)) 4,o1 6 (.bin .leq (.t 5) (.k (.int .i64 45))) 5,o1 2 (.mv (.t 6)) 6]) .ret)
def rs6:List IRes:=[.tmp 2]
set_option maxRecDepth 100000 in
theorem comp6:Comp Try.prog 6 ir6 rs6 7:=⟨⟨_,_,7,Try.func6,rfl,by kernel_rfl,by kernel_rfl,rfl⟩⟩
theorem body6:HasBody Try.prog 6:=hasBody_of (by kernel_rfl)

def ir7:IC :=
 .seq (.reg 0 2 [o1 1 (.box 27 (.t 0)) 0,o1 2 (.mv (.k (.int .i64 0))) 1]) (.seq (.seq (.reg 2 4 [o1 4 (.faddr 4 (.t 1)) 2,o1 5 (.load 1 .false (.t 4)) 3,o1 6 (.len (.t 5)) 4,o1 7 (.bin .gtr (.t 6) (.k (.int .i64 40))) 5]) (.cond (.t 7) (.seq (.reg 6 1 [o1 2 (.mv (.k (.int .i64 3))) 6]) .ret) .skip)) (.seq (.seq (.reg 7 24 [o1 8 (.faddr 0 (.t 1)) 7,o1 9 (.load 1 .false (.t 8)) 8,o1 10 (.call 33 [.t 9, .k (.int .i64 1), .k (.int .i64 12)]) 9,o1 11 (.un .not (.t 10)) 10,o1 12 (.mv (.t 11)) 11, .mk (.some 13) (.faddr 2 (.t 1)) (.some (12, .false)) 12 .none .false [] .false, .mk (.some 14) (.load 1
 .false (.t 13)) (.some (12, .false)) 13 .none .false [] .false, .mk (.some 15) (.call 33 [.t 14, .k (.int .i64 1), .k (.int .i64 20)]) (.some (12, .false)) 14 .none .false []
 .false, .mk (.some 16) (.un .not (.t 15)) (.some (12, .false)) 15 .none .false [] .false,o1 17 (.pick (.t 12) (.k (.bool .true)) (.t 16)) 16,o1 18 (.mv (.t 17)) 17, .mk (.some 19) (.faddr 1 (.t 1)) (.some (18, .false)) 18 .none .false [] .false, .mk (.some 20) (.load 1
 .false (.t 19)) (.some (18, .false)) 19 .none .false [] .false, .mk (.some 21) (.faddr 2 (.t 1)) (.some (18, .false)) 20 .none .false [] .false, .mk (.some 22) (.load 1 .false (.t
 21)) (.some (18, .false)) 21 .none .false [] .false, .mk (.some 23) (.call 33 [.t 20, .k (.int .i64 1), .t 22]) (.some (18, .false)) 22 .none .false [] .false, .mk (.some 24) (.un
 .not (.t 23)) (.some (18, .false)) 23 .none .false [] .false,o1 25 (.pick (.t 18) (.k (.bool .true)) (.t 24)) 24,o1 26 (.mv (.t 25)) 25, .mk (.some 27) (.faddr 3 (.t 1)) (.some (26, .false)) 26 .none .false [] .false, .mk (.some 28) (.load 1 .false (.t 27)) (.some (26, .false))
 27 .none .false [] .false, .mk (.some 29) (.call 33 [.t 28, .k (.int .i64 0), .k (.int .i64 20)]) (.some (26, .false)) 28 .none .false [] .false, .mk (.some 30) (.un .not (.t 29))
 (.some (26, .false)) 29 .none .false [] .false,o1 31 (.pick (.t 26) (.k (.bool .true)) (.t 30)) 30]) (.cond (.t 31) (.seq (.reg 31 1 [o1 2 (.mv (.k (.int .i64 1))) 31]) .ret) .skip)) (.seq (.seq (.reg 32 1 [o1 3 (.mv (.k (.int .i64 0))) 32])
 (.block 0 (.loop (.seq (.seq (.reg 33 5 [o1 32 (.mv (.t 3)) 33,o1 33 (.faddr 4 (.t 1)) 34,o1 34 (.load 1 .false (.t 33)) 35,o1 35 (.len (.t 34)) 36,o1 36 (.bin .lss (.t 32) (.t 35)) 37]) (.cond (.t 36) .skip (.exit 0))) (.seq (.block 1 (.seq (.draw 38 22 [1] [] [o3 39 (.faddr 4 (.t 1)) 38,o3 40 (.load 1 .false (.t 39)) 39,o3 41 (.mv (.t 3)) 40,o3 42 (.iaddr 2 (.t 40) (.t 41)) 41,o3 43 (.faddr 0 (.t 42)) 42,o3 44 (.load 1 .false (.t 43)) 43,o3 45 (.faddr 0 (.t 1)) 44,o3 46 (.load 1 .false (.t 45)) 45,o3 47 (.call 34 [.t 44, .t 46]) 46, .mk (.some 48) (.un .not (.t 47)) .none 47 (.some [46]) .true [] .false, .mk (.some 49) (.mv (.t 48)) .none 48 (.some [46])
 .true [] .false, .mk (.some 50) (.faddr 4 (.t 1)) (.some (49, .false)) 49 (.some [46]) .true [] .false, .mk (.some 51) (.load 1 .false (.t 50)) (.some (49, .false)) 50 (.some
 [46]) .false [] .false, .mk (.some 52) (.mv (.t 3)) (.some (49, .false)) 51 (.some [46]) .true [] .false, .mk (.some 53) (.iaddr 2 (.t 51) (.t 52)) (.some (49, .false)) 52 (.some
 [46]) .true [] .false, .mk (.some 54) (.faddr 1 (.t 53)) (.some (49, .false)) 53 (.some [46]) .true [] .false, .mk (.some 55) (.load 1 .false (.t 54)) (.some (49, .false)) 54
 (.some [46]) .false [] .false, .mk (.some 56) (.faddr 0 (.t 1)) (.some (49, .false)) 55 (.some [46]) .true [] .false, .mk (.some 57) (.load 1 .false (.t 56)) (.some (49, .false))
 56 (.some [46]) .false [] .false, .mk (.some 58) (.call 34 [.t 55, .t 57]) (.some (49, .false)) 57 (.some [46]) .false [] .false, .mk (.some 59) (.un .not (.t 58)) (.some (49,
 .false)) 58 (.some [46,57]) .true [] .false, .mk (.some 60) (.pick (.t 49) (.k (.bool .true)) (.t 59)) .none 59 (.some [57,46]) .true [] .false]) (.cond (.t 60) (.seq (.reg 60 1
 [o1 2 (.mv (.k (.int .i64 1))) 60]) .ret) .skip))) (.reg 61 3 [o1 37 (.mv (.t 3)) 61,o1 38 (.bin .add (.t 37) (.k (.int .i64 1))) 62,o1 3 (.mv (.t 38)) 63])))))) (.seq (.reg 64 1 [o1 2 (.mv (.k (.int .i64 0))) 64]) .ret))))
def rs7:List IRes:=[.tmp 2]
set_option maxRecDepth 100000 in
theorem comp7:Comp Try.prog 7 ir7 rs7 61:=⟨⟨_,_,65,Try.func7,rfl,by kernel_rfl,by kernel_rfl,rfl⟩⟩
theorem body7:HasBody Try.prog 7:=hasBody_of (by kernel_rfl)

def ir8:IC :=
 .seq (.reg 0 1 [o1 0 (.mv (.k (.bool .false))) 0]) (.seq (.reg 1 7 [o1 6 (.bld [(0,1),(1,1),(2,1),(3,1)] [.int .i64 0, .slice .none 0 0, .int .i64 0, .int .i64 0] [(0, .k (.int .i64 5)),(2, .k (.int .i64 9)),(3, .k (.int .i64 1))]) 1,o1 7 (.call 14 [.t 6]) 2,o1 5 (.mv (.t 7)) 3,o1 8 (.ext (.t 5) 0) 4,o1 9 (.ext (.t 5) 1) 5,o1 1 (.mv (.t 8)) 6,o1 2 (.mv (.t 9)) 7]) (.seq (.reg 8 9 [o1 11 (.bld [(0,1),(1,1)] [.int .u16 0, .int .u16 0] [(0, .k (.int .u16 1)),(1, .k (.int .u16 1))]) 8,o1 12 (.bsl 39 2 1 [.int .u16 0, .int .u16 0] [(0, .t 11)]) 9,o1 13 (.bld [(0,1),(1,1),(2,1),(3,1),(4,1)] [.int .i64 0, .int .i64 0, .int .i64 0, .int .i64 0, .slice .none 0 0] [(0, .k (.int .i64 1)),(1, .k (.int .i64 1)),(2, .k (.int .i64 1)),(4, .t 12)]) 10,o1 14 (.call 12 [.t 13]) 11,o1 10 (.mv (.t 14)) 12,o1 15 (.ext (.t 10) 0) 13,o1 16 (.ext (.t 10) 1) 14,o1 3 (.mv (.t 15)) 15,o1 4 (.mv (.t 16)) 16]) (.seq (.reg 17 31
 [o1 17 (.mv (.t 2)) 17,o1 18 (.bin .eql (.t 17) (.k (.int .i64 0))) 18,o1 19 (.mv (.t 18)) 19, .mk (.some 20) (.mv (.t 1)) (.some (19, .true)) 20 .none .false [] .false, .mk (.some 21) (.len (.t 20)) (.some (19, .true)) 21 .none .false []
 .false, .mk (.some 22) (.bin .eql (.t 21) (.k (.int .i64 1))) (.some (19, .true)) 22 .none .false [] .false,o1 23 (.pick (.t 19) (.t 22) (.k (.bool .false))) 23,o1 24 (.mv (.t 23)) 24, .mk (.some 25) (.mv (.t 1)) (.some (24, .true)) 25 .none .false [] .false, .mk (.some 26)
 (.iaddr 2 (.t 25) (.k (.int .i64 0))) (.some (24, .true)) 26 .none .false [] .false, .mk (.some 27) (.load 2 .true (.t 26)) (.some (24, .true)) 27 .none .false [] .false, .mk
 (.some 28) (.bld [(0,1),(1,1)] [.int .i64 0, .int .i64 0] [(1, .k (.int .i64 5))]) (.some (24, .true)) 28 .none .false [] .false, .mk (.some 29) (.pur (.bin .eql 54) [.t 27, .t
 28]) (.some (24, .true)) 29 .none .false [] .false,o1 30 (.pick (.t 24) (.t 29) (.k (.bool .false))) 30,o1 31 (.mv (.t 30)) 31, .mk (.some 32) (.mv (.t 4)) (.some (31, .true)) 32 .none .false [] .false, .mk (.some 33) (.bin .eql (.t 32) (.k (.int .i64 0))) (.some (31, .true)) 33
 .none .false [] .false,o1 34 (.pick (.t 31) (.t 33) (.k (.bool .false))) 34,o1 35 (.mv (.t 34)) 35,
 .mk (.some 36) (.mv (.t 3)) (.some (35, .true)) 36 .none .false [] .false, .mk (.some 37) (.len (.t 36)) (.some (35, .true)) 37 .none .false [] .false, .mk (.some 38) (.bin .eql
 (.t 37) (.k (.int .i64 1))) (.some (35, .true)) 38 .none .false [] .false,o1 39 (.pick (.t 35) (.t 38) (.k (.bool .false))) 39,o1 40 (.mv (.t 39)) 40, .mk (.some 41) (.mv (.t 3)) (.some (40, .true)) 41 .none .false [] .false, .mk (.some 42) (.iaddr 2 (.t 41) (.k (.int .i64 0)))
 (.some (40, .true)) 42 .none .false [] .false, .mk (.some 43) (.load 2 .true (.t 42)) (.some (40, .true)) 43 .none .false [] .false, .mk (.some 44) (.bld [(0,1),(1,1)] [.int
 .i64 0, .int .i64 0] []) (.some (40, .true)) 44 .none .false [] .false, .mk (.some 45) (.pur (.bin .eql 58) [.t 43, .t 44]) (.some (40, .true)) 45 .none .false [] .false,o1 46 (.pick (.t 40) (.t 45) (.k (.bool .false))) 46,o1 0 (.mv (.t 46)) 47]) .ret)))
def rs8:List IRes:=[.tmp 0]
set_option maxRecDepth 100000 in
theorem comp8:Comp Try.prog 8 ir8 rs8 47:=⟨⟨_,_,48,Try.func8,rfl,by kernel_rfl,by kernel_rfl,rfl⟩⟩
theorem body8:HasBody Try.prog 8:=hasBody_of (by kernel_rfl)

def ir10:IC :=
 .seq (.reg 1000 2 [o1 1 (.box 27 (.t 0)) 1000,o1 2 (.alloc 34 [.int .i64 0, .int .i64 0, .int .i64 0, .int .i64 0, .slice .none 0 0]) 1001]) (.seq (.reg 1002 11 [o1 5 (.faddr 0 (.t 1)) 1002,o1 6 (.load 1 .false (.t 5)) 1003,o1 7 (.faddr 1 (.t 1)) 1004,o1 8 (.load 1 .false (.t 7)) 1005,o1 9 (.faddr 2 (.t 1)) 1006,o1 10 (.load 1 .false (.t 9)) 1007,o1 11 (.faddr 3 (.t 1)) 1008,o1 12 (.load 1 .false (.t 11)) 1009,o1 13 (.bld [(0,1),(1,1),(2,1),(3,1),(4,1)] [.int .i64 0, .int .i64 0, .int .i64 0, .int .i64 0, .slice .none 0 0] [(0, .t 6),(1, .t 8),(2, .t 10),(3, .t 12)]) 1010,o1 3 (.alloc 34 [.int .i64 0, .int .i64 0, .int .i64 0, .int .i64 0, .slice .none 0 0]) 1011,o2 (.store 5 (.t 3) (.t 13)) 1012]) (.seq (.seq (.reg 1013 1 [o1 4 (.mv (.k (.int .i64 0))) 1013]) (.block 0 (.loop (.seq (.seq (.reg 1014 5 [o1 14 (.mv (.t 4)) 1014,
 o1 15 (.faddr 4 (.t 1)) 1015,o1 16 (.load 1 .false (.t 15)) 1016,o1 17 (.len (.t 16)) 1017,o1 18 (.bin .lss (.t 14) (.t 17)) 1018]) (.cond (.t 18) .skip (.exit 0))) (.seq (.block 1 (.draw 1019 19 [] []
 [o3 21 (.faddr 4 (.t 3)) 1019,o3 22 (.load 1 .false (.t 21)) 1020,o3 23 (.faddr 4 (.t 1)) 1021,o3 24 (.load 1 .false (.t 23)) 1022,o3 25 (.mv (.t 4)) 1023,o3 26 (.iaddr 2 (.t 24) (.t 25)) 1024,o3 27 (.faddr 0 (.t 26)) 1025,o3 28 (.load 1 .false (.t 27)) 1026,o3 29 (.faddr 4 (.t 1)) 1027,o3 30 (.load 1 .false (.t 29)) 1028,o3 31 (.mv (.t 4)) 1029,o3 32 (.iaddr 2 (.t 30) (.t 31)) 1030,o3 33 (.faddr 1 (.t 32)) 1031,o3 34 (.load 1 .false (.t 33)) 1032,o3 35 (.bld [(0,1),(1,1)] [.int .u16 0, .int .u16 0] [(0, .t 28),(1, .t 34)]) 1033,o3 36 (.bsl 39 2 1 [.int .u16 0, .int .u16 0] [(0, .t 35)]) 1034, .mk (.some 37) (.apph 39 2 4 (.t 22) (.t 36)) .none 1035 (.some [0,1034]) .true [] .true, .mk (.some 38) (.faddr 4 (.t 3)) .none
 1036 (.some [1034]) .true [] .false, .mk .none (.store 1 (.t 38) (.t 37)) .none 1037 (.some [1034]) .true [] .false])) (.reg 1038 3 [o1 19 (.mv (.t 4)) 1038,o1 20 (.bin .add (.t 19) (.k (.int .i64 1))) 1039,o1 4 (.mv (.t 20)) 1040]))))))
 (.seq (.reg 1041 2 [o1 39 (.load 5 .true (.t 3)) 1041,o2 (.store 5 (.t 2) (.t 39)) 1042]) .ret)))
def rs10:List IRes:=[.cell 2 5 .true]
set_option maxRecDepth 100000 in
theorem comp10:CompAt Try.prog 10 1000 ir10 rs10 40:=⟨⟨_,_,1043,Try.func10,rfl,by kernel_rfl,by kernel_rfl,rfl⟩⟩
theorem body10:HasBody Try.prog 10:=hasBody_of (by kernel_rfl)

def ir33:IC :=
 .seq (.reg 0 1 [o1 6 (.mv (.k (.bool .false))) 0]) (.seq (.reg 1 9 [o1 7 (.mv (.t 0)) 1,o1 8 (.mv (.t 1)) 2,o1 9 (.bin .geq (.t 7) (.t 8)) 3,o1 10 (.mv (.t 9)) 4,
 .mk (.some 11) (.mv (.t 0)) (.some (10, .true)) 5 .none .false [] .false, .mk (.some 12) (.mv (.t 2)) (.some (10, .true)) 6 .none .false [] .false, .mk (.some 13) (.bin .leq (.t
 11) (.t 12)) (.some (10, .true)) 7 .none .false [] .false,o1 14 (.pick (.t 10) (.t 13) (.k (.bool .false))) 8,o1 6 (.mv (.t 14)) 9]) .ret)
def rs33:List IRes:=[.tmp 6]
set_option maxRecDepth 100000 in
theorem comp33:Comp Try.prog 33 ir33 rs33 15:=⟨⟨_,_,10,Try.func33,rfl,by kernel_rfl,by kernel_rfl,rfl⟩⟩
theorem body33:HasBody Try.prog 33:=hasBody_of (by kernel_rfl)

def ir34:IC :=
 .seq (.reg 0 1 [o1 4 (.mv (.k (.bool .false))) 0]) (.seq (.seq (.reg 1 2 [o1 6 (.mv (.t 1)) 1,o1 5 (.mv (.t 6)) 2]) (.block 0 (.loop (.seq (.seq (.reg 3 2 [o1 7 (.mv (.t 5)) 3,o1 8 (.bin .lss (.t 7) (.k (.int .i64 15))) 4]) (.cond (.t 8) .skip (.exit 0))) (.seq (.block 1 (.seq (.reg 5 3 [o1 11 (.mv (.t 0)) 5,
 o1 12 (.mv (.t 5)) 6,o1 13 (.call 64 [.t 11, .t 12]) 7]) (.cond (.t 13) (.seq (.reg 8 1 [o1 4 (.mv (.k (.bool .false))) 8]) .ret) .skip))) (.reg 9 3 [o1 9 (.mv (.t 5)) 9,o1 10 (.bin .add (.t 9) (.k (.int .i64 1))) 10,o1 5 (.mv (.t 10)) 11])))))) (.seq (.reg 12 1 [o1 4 (.mv (.k (.bool .true))) 12]) .ret))
def rs34:List IRes:=[.tmp 4]
set_option maxRecDepth 100000 in
theorem comp34:Comp Try.prog 34 ir34 rs34 14:=⟨⟨_,_,13,Try.func34,rfl,by kernel_rfl,by kernel_rfl,rfl⟩⟩
theorem body34:HasBody Try.prog 34:=hasBody_of (by kernel_rfl)

def ir64:IC :=
 .seq (.reg 0 1 [o1 4 (.mv (.k (.bool .false))) 0]) (.seq (.reg 1 6 [o1 5 (.mv (.t 0)) 1,o1 6 (.mv (.t 1)) 2,o1 7 (.call 97 [.t 6]) 3,o1 8 (.pur (.bin .and 37) [.t 5, .t 7]) 4,o1 9 (.bin .neq (.t 8) (.k (.int .u16 0))) 5,o1 4 (.mv (.t 9)) 6]) .ret)
def rs64:List IRes:=[.tmp 4]
set_option maxRecDepth 100000 in
theorem comp64:Comp Try.prog 64 ir64 rs64 10:=⟨⟨_,_,7,Try.func64,rfl,by kernel_rfl,by kernel_rfl,rfl⟩⟩
theorem body64:HasBody Try.prog 64:=hasBody_of (by kernel_rfl)

def ir97:IC :=
 .seq (.reg 0 1 [o1 2 (.mv (.k (.int .u16 0))) 0]) (.seq (.seq (.reg 1 2 [o1 3 (.mv (.t 0)) 1,o1 4 (.bin .lss (.t 3) (.k (.int .i64 0))) 2]) (.cond (.t 4) (.seq (.reg 3 1 [o1 2 (.mv (.k (.int .u16 32768))) 3]) .ret) .skip)) (.seq (.reg 4 4 [o1 5 (.mv (.t 0)) 4,o1 6 (.conv .u64 (.t 5)) 5,o1 7 (.pur (.bin .shl 37) [.k (.int .u16 1), .t 6]) 6,o1 2 (.mv (.t 7)) 7]) .ret))
def rs97:List IRes:=[.tmp 2]
set_option maxRecDepth 100000 in
theorem comp97:Comp Try.prog 97 ir97 rs97 8:=⟨⟨_,_,8,Try.func97,rfl,by kernel_rfl,by kernel_rfl,rfl⟩⟩
theorem body97:HasBody Try.prog 97:=hasBody_of (by kernel_rfl)

end Go.Proofs.Ytefnikpoimaiiaa

namespace Go.Proofs.Ytefnikpoimaiiaa.L
open Go.Pal
def ir10:IC :=
 .seq (.reg 0 2 [o1 1 (.box 24 (.t 0)) 0,o1 2 (.mv (.k (.int .i64 0))) 1]) (.seq (.seq (.reg 2 3 [o1 3 (.load 4 .true (.t 1)) 2,o1 4 (.call 35 [.t 3]) 3,o1 5 (.un .not (.t 4)) 4]) (.cond (.t 5) (.seq (.reg 5 1 [o1 2 (.mv (.k (.int .i64 1))) 5]) .ret) .skip)) (.seq (.seq (.reg 6 4 [o1 6 (.load 4 .true (.t 1)) 6,o1 7 (.call 36 [.t 6]) 7,o1 8 (.len (.t 7)) 8,o1 9 (.bin .gtr (.t 8) (.k (.int .i64 40))) 9]) (.cond (.t 9) (.seq (.reg 10 1 [o1 2 (.mv (.k (.int .i64 3))) 10]) .ret) .skip)) (.seq (.reg 11 1 [o1 2 (.mv (.k (.int .i64 0))) 11]) .ret)))
def rs10:List IRes:=[.tmp 2]
set_option maxRecDepth 100000 in
theorem comp10:Comp Try.prog 9 ir10 rs10 10:=⟨⟨_,_,12,Try.func9,rfl,by kernel_rfl,by kernel_rfl,rfl⟩⟩
theorem body10:HasBody Try.prog 9:=hasBody_of (by kernel_rfl)

def ir12:IC :=
 .seq (.reg 0 3 [o1 1 (.box 51 (.t 0)) 0,o1 2 (.mv (.k (.slice .none 0 0))) 1,o1 3 (.mv (.k (.int .i64 0))) 2]) (.seq (.reg 3 6 [o1 4 (.load 4 .true (.t 1)) 3,o1 5 (.call 42 [.t 4]) 4,o1 6 (.ext (.t 5) 0) 5,o1 7 (.ext (.t 5) 1) 6,o1 2 (.mv (.t 6)) 7,o1 3 (.mv (.t 7)) 8]) .ret)
def rs12:List IRes:=[.tmp 2, .tmp 3]
set_option maxRecDepth 100000 in
theorem comp12:Comp Try.prog 14 ir12 rs12 8:=⟨⟨_,_,9,Try.func14,rfl,by kernel_rfl,by kernel_rfl,rfl⟩⟩
theorem body12:HasBody Try.prog 14:=hasBody_of (by kernel_rfl)

def ir13:IC :=
 .seq (.reg 0 2 [o1 1 (.box 24 (.t 0)) 0,o1 2 (.alloc 51 [.int .i64 0, .slice .none 0 0, .int .i64 0, .int .i64 0]) 1]) (.seq (.reg 2 9 [o1 5 (.faddr 0 (.t 1)) 2,o1 6 (.load 1 .false (.t 5)) 3,o1 7 (.faddr 2 (.t 1)) 4,o1 8 (.load 1 .false (.t 7)) 5,o1 9 (.faddr 3 (.t 1)) 6,o1 10 (.load 1 .false (.t 9)) 7,o1 11 (.bld [(0,1),(1,1),(2,1),(3,1)] [.int .i64 0, .slice .none 0 0, .int .i64 0, .int .i64 0] [(0, .t 6),(2, .t 8),(3, .t 10)]) 8,o1 3 (.alloc 51 [.int .i64 0, .slice .none 0 0, .int .i64 0, .int .i64 0]) 9,o2 (.store 4 (.t 3) (.t 11)) 10]) (.seq (.seq (.reg 11 1 [o1 4 (.mv (.k (.int .i64 0))) 11]) (.block 0 (.loop (.seq (.seq (.reg 12 5 [o1 12 (.mv (.t 4)) 12,o1 13 (.faddr 1 (.t 1)) 13,o1 14 (.load 1 .false (.t 13)) 14,o1 15 (.len (.t 14)) 15,o1 16 (.bin .lss (.t 12) (.t 15)) 16]) (.cond (.t 16) .skip (.exit 0))) (.seq (.block 1 (.draw 17 19 [] [] [o3 19 (.faddr 1 (.t 3)) 17,o3 20 (.load 1 .false (.t 19)) 18,o3 21 (.faddr 1 (.t 1)) 19,o3 22 (.load 1 .false (.t 21)) 20,o3 23 (.mv (.t 4)) 21,o3 24 (.iaddr 2 (.t 22) (.t 23)) 22,o3 25 (.faddr 0 (.t 24)) 23,o3 26 (.load 1 .false (.t 25)) 24,o3 27 (.faddr 1 (.t 1)) 25,o3 28 (.load 1 .false (.t 27)) 26,o3 29 (.mv (.t 4)) 27,o3 30 (.iaddr 2 (.t 28) (.t 29)) 28,o3 31 (.faddr 1 (.t 30)) 29,o3 32 (.load 1 .false (.t 31)) 30,o3 33 (.bld [(0,1),(1,1)] [.int .i64 0, .int .i64 0] [(0, .t 26),(1, .t 32)]) 31,o3 34 (.bsl 54 2 1 [.int .i64 0, .int .i64 0] [(0, .t 33)]) 32, .mk (.some 35) (.app 54 2 16 (.t 20) (.t 34)) .none 33
 (.some [32]) .true [] .false, .mk (.some 36) (.faddr 1 (.t 3)) .none 34 (.some [33,32]) .true [] .false, .mk .none (.store 1 (.t 36) (.t 35)) .none 35 (.some [32,33]) .true []
 .false])) (.reg 36 3 [o1 17 (.mv (.t 4)) 36,o1 18 (.bin .add (.t 17) (.k (.int .i64 1))) 37,o1 4 (.mv (.t 18)) 38])))))) (.seq (.reg 39 2 [o1 37 (.load 4 .true (.t 3)) 39,o2 (.store 4 (.t 2) (.t 37)) 40]) .ret)))
def rs13:List IRes:=[.cell 2 4 .true]
set_option maxRecDepth 100000 in
theorem comp13:Comp Try.prog 15 ir13 rs13 38:=⟨⟨_,_,41,Try.func15,rfl,by kernel_rfl,by kernel_rfl,rfl⟩⟩
theorem body13:HasBody Try.prog 15:=hasBody_of (by kernel_rfl)

def ir14:IC :=
 .seq (.reg 0 2 [o1 2 (.box 24 (.t 0)) 0,o1 4 (.mv (.k (.bool .false))) 1]) (.seq (.seq (.reg 2 1 [o1 5 (.mv (.k (.int .i64 0))) 2]) (.block 0 (.loop (.seq (.seq (.reg 3 5 [o1 6 (.mv (.t 5)) 3,o1 7 (.faddr 1 (.t 2)) 4,o1 8 (.load 1 .false (.t 7)) 5,o1 9 (.len (.t 8)) 6,o1 10 (.bin .lss (.t 6) (.t 9)) 7]) (.cond (.t 10) .skip (.exit 0))) (.seq (.block 1 (.seq (.draw 8 15 [1] [] [o3 13 (.mv (.t 1)) 8,o3 14 (.faddr 1 (.t 2)) 9,o3 15 (.load 1 .false (.t 14)) 10,o3 16 (.mv (.t 5)) 11,o3 17 (.iaddr 2 (.t 15) (.t 16)) 12,o3 18 (.faddr 0 (.t 17)) 13,o3 19 (.load 1 .false (.t 18)) 14,o3 20 (.faddr 1 (.t 2)) 15,o3 21 (.load 1 .false (.t 20)) 16,o3 22 (.mv (.t 5)) 17,o3 23 (.iaddr 2 (.t 21) (.t 22)) 18,o3 24 (.faddr 1 (.t 23)) 19,o3 25 (.load 1 .false (.t 24)) 20,o3 26 (.bin .sub (.t 25) (.k (.int .i64 1))) 21,o3 27 (.call 37 [.t 13, .t 19, .t 26]) 22]) (.cond (.t 27) (.seq (.reg 23 1 [o1 4 (.mv (.k (.bool .true))) 23]) .ret) .skip))) (.reg 24 3 [o1 11 (.mv (.t 5)) 24,o1 12 (.bin .add (.t 11) (.k (.int .i64 1))) 25,o1 5 (.mv (.t 12)) 26])))))) (.seq (.reg 27 1 [o1 4 (.mv (.k (.bool .false))) 27]) .ret))
def rs14:List IRes:=[.tmp 4]
set_option maxRecDepth 100000 in
theorem comp14:Comp Try.prog 11 ir14 rs14 28:=⟨⟨_,_,28,Try.func11,rfl,by kernel_rfl,by kernel_rfl,rfl⟩⟩
theorem body14:HasBody Try.prog 11:=hasBody_of (by kernel_rfl)

def ir15:IC :=
 .seq (.reg 0 4 [o1 2 (.box 51 (.t 0)) 0,o1 3 (.box 3 (.t 1)) 1,o1 4 (.mv (.k (.int .i64 0))) 2,o1 5 (.mv (.k (.int .i64 0))) 3]) (.seq (.reg 4 7 [o1 10 (.load 4 .true (.t 2)) 4,o1 11 (.call 42 [.t 10]) 5,o1 9 (.mv (.t 11)) 6,o1 12 (.ext (.t 9) 0) 7,o1 13 (.ext (.t 9) 1) 8,o1 6 (.mv (.t 12)) 9,o1 7 (.mv (.t 13)) 10]) (.seq (.seq (.reg 11 2 [o1 14 (.mv (.t 7)) 11,o1 15 (.bin .neq (.t 14) (.k (.int .i64 0))) 12]) (.cond (.t 15) (.seq (.reg 13 3 [o1 16 (.mv (.t 7)) 13,o1 4 (.mv (.k (.int .i64 0))) 14,o1 5 (.mv (.t 16)) 15]) .ret) .skip)) (.seq (.seq (.reg 16 6 [o1 17 (.load 1 .false (.t 3)) 16,o1 18 (.faddr 0 (.t 2)) 17,o1 19 (.load 1 .false (.t 18)) 18,o1 20 (.bin .sub (.t 19) (.k (.int .i64 1))) 19,o1 21 (.call 43 [.t 17, .k (.int .i64 0), .t 20]) 20,o1 22 (.un .not (.t 21)) 21]) (.cond (.t 22) (.seq (.reg 22 2 [o1 4 (.mv (.k (.int .i64 0))) 22,o1 5 (.mv (.k (.int .i64 2))) 23]) .ret) .skip)) (.seq (.reg 24 4 [o1 23 (.mv (.t 6)) 24,o1 24 (.mkf 45 [] [.t 3]) 25,o1 25 (.call 44 [.t 23, .t 24]) 26,o1 8 (.mv (.t 25)) 27]) (.seq (.seq (.reg
 28 2 [o1 26 (.mv (.t 8)) 28,o1 27 (.bin .lss (.t 26) (.k (.int .i64 0))) 29]) (.cond (.t 27) (.seq
 (.reg 30 2 [o1 4 (.mv (.k (.int .i64 0))) 30,o1 5 (.mv (.k (.int .i64 7))) 31]) .ret) .skip)) (.seq
 (.reg 32 3 [o1 28 (.mv (.t 8)) 32,o1 4 (.mv (.t 28)) 33,o1 5 (.mv (.k (.int .i64 0))) 34]) .ret))))))
def rs15:List IRes:=[.tmp 4, .tmp 5]
set_option maxRecDepth 100000 in
theorem comp15:Comp Try.prog 16 ir15 rs15 29:=⟨⟨_,_,35,Try.func16,rfl,by kernel_rfl,by kernel_rfl,rfl⟩⟩
theorem body15:HasBody Try.prog 16:=hasBody_of (by kernel_rfl)

def ir32:IC :=
 .seq (.reg 0 2 [o1 1 (.box 24 (.t 0)) 0,o1 2 (.mv (.k (.bool .false))) 1]) (.seq (.reg 2 1 [o1 3 (.mv (.k (.int .i64 (-1)))) 2]) (.seq (.seq (.reg 3 1 [o1 4 (.mv (.k (.int .i64 0))) 3]) (.block 0 (.loop
 (.seq (.seq (.reg 4 5 [o1 6 (.mv (.t 4)) 4,o1 7 (.faddr 1 (.t 1)) 5,o1 8 (.load 1 .false (.t 7)) 6,o1 9 (.len (.t 8)) 7,o1 10 (.bin .lss (.t 6) (.t 9)) 8]) (.cond
 (.t 10) .skip (.exit 0))) (.seq (.block 1 (.seq (.reg 9 7 [o1 13 (.faddr 1 (.t 1)) 9,o1 14 (.load 1 .false (.t 13)) 10,o1 15 (.mv (.t 4)) 11,o1 16 (.iaddr 2 (.t 14) (.t 15)) 12,o1 17 (.load 2 .true (.t 16)) 13,o1 5 (.alloc 119 [.int .i64 0, .int .i64 0]) 14,o2 (.store 2 (.t 5) (.t 17)) 15]) (.seq (.seq (.reg 16 23 [o1 18 (.faddr 0 (.t 5)) 16,o1 19 (.load 1 .false (.t 18)) 17,o1 20 (.mv (.t 3)) 18,o1 21 (.bin .leq (.t 19) (.t 20)) 19,o1 22 (.mv (.t 21)) 20, .mk (.some 23) (.faddr 0 (.t 5)) (.some (22, .false)) 21 .none .false [] .false, .mk (.some 24) (.load 1 .false (.t 23)) (.some (22, .false)) 22
 .none .false [] .false, .mk (.some 25) (.bin .lss (.t 24) (.k (.int .i64 0))) (.some (22, .false)) 23 .none .false [] .false,o1 26 (.pick (.t 22) (.k (.bool .true)) (.t 25)) 24,o1 27 (.mv (.t 26)) 25, .mk (.some 28) (.faddr 0 (.t 5)) (.some (27, .false)) 26 .none .false []
 .false, .mk (.some 29) (.load 1 .false (.t 28)) (.some (27, .false)) 27 .none .false [] .false, .mk (.some 30) (.faddr 1 (.t 5)) (.some (27, .false)) 28 .none .false [] .false,
 .mk (.some 31) (.load 1 .false (.t 30)) (.some (27, .false)) 29 .none .false [] .false, .mk (.some 32) (.bin .geq (.t 29) (.t 31)) (.some (27, .false)) 30 .none .false [] .false,
 o1 33 (.pick (.t 27) (.k (.bool .true)) (.t 32)) 31,o1 34 (.mv (.t 33)) 32, .mk (.some 35) (.faddr 1
 (.t 5)) (.some (34, .false)) 33 .none .false [] .false, .mk (.some 36) (.load 1 .false (.t 35)) (.some (34, .false)) 34 .none .false [] .false, .mk (.some 37) (.faddr 0 (.t 1))
 (.some (34, .false)) 35 .none .false [] .false, .mk (.some 38) (.load 1 .false (.t 37)) (.some (34, .false)) 36 .none .false [] .false, .mk (.some 39) (.bin .gtr (.t 36) (.t 38))
 (.some (34, .false)) 37 .none .false [] .false,o1 40 (.pick (.t 34) (.k (.bool .true)) (.t 39)) 38]) (.cond (.t 40) (.seq (.reg 39 1 [o1 2 (.mv (.k (.bool .false))) 39]) .ret) .skip)) (.reg 40 3 [o1 41 (.faddr 1 (.t 5)) 40,o1 42 (.load 1 .false (.t 41)) 41,o1 3 (.mv (.t 42)) 42])))) (.reg 43 3 [o1 11 (.mv (.t 4)) 43,o1 12 (.bin .add (.t 11) (.k (.int .i64 1))) 44,o1 4 (.mv (.t 12)) 45])))))) (.seq
 (.reg 46 16 [o1 43 (.faddr 0 (.t 1)) 46,o1 44 (.load 1 .false (.t 43)) 47,o1 45 (.call 37 [.t 44, .k (.int .i64 1), .k (.int .i64 36000)]) 48,o1 46 (.mv (.t 45)) 49, .mk (.some 47) (.faddr 2 (.t 1))
 (.some (46, .true)) 50 .none .false [] .false, .mk (.some 48) (.load 1 .false (.t 47)) (.some (46, .true)) 51 .none .false [] .false, .mk (.some 49) (.call 37 [.t 48, .k (.int
 .i64 1), .k (.int .i64 1200)]) (.some (46, .true)) 52 .none .false [] .false,o1 50 (.pick (.t 46) (.t 49) (.k (.bool .false))) 53,o1 51 (.mv (.t 50)) 54, .mk (.some 52) (.faddr 3 (.t 1)) (.some (51, .true)) 55 .none .false [] .false, .mk (.some 53) (.load 1 .false (.t 52))
 (.some (51, .true)) 56 .none .false [] .false, .mk (.some 54) (.faddr 2 (.t 1)) (.some (51, .true)) 57 .none .false [] .false, .mk (.some 55) (.load 1 .false (.t 54)) (.some (51,
 .true)) 58 .none .false [] .false, .mk (.some 56) (.call 37 [.t 53, .k (.int .i64 1), .t 55]) (.some (51, .true)) 59 .none .false [] .false,o1 57 (.pick (.t 51) (.t 56) (.k (.bool .false))) 60,o1 2 (.mv (.t 57)) 61]) .ret)))
def rs32:List IRes:=[.tmp 2]
set_option maxRecDepth 100000 in
theorem comp32:Comp Try.prog 35 ir32 rs32 58:=⟨⟨_,_,62,Try.func35,rfl,by kernel_rfl,by kernel_rfl,rfl⟩⟩
theorem body32:HasBody Try.prog 35:=hasBody_of (by kernel_rfl)

def ir33:IC :=
 .seq (.reg 0 2 [o1 1 (.box 24 (.t 0)) 0,o1 2 (.mv (.k (.slice .none 0 0))) 1]) (.seq (.reg 2 1 [o1 3 (.mv (.k (.slice .none 0 0))) 2]) (.seq (.reg 3 3 [o1 9 (.load 4 .true (.t 1)) 3,o1 10 (.call 65 [.t 9]) 4,o1 4 (.mv (.t 10)) 5]) (.seq (.seq (.reg 6 1 [o1 5 (.mv (.k (.int .i64 0))) 6]) (.block 0 (.loop (.seq (.seq (.reg 7 4 [o1 11 (.mv (.t 5)) 7,o1 12 (.mv (.t 4)) 8,o1 13 (.len (.t 12)) 9,o1 14 (.bin .lss (.t 11) (.t 13)) 10]) (.cond (.t 14) .skip (.exit 0)))
 (.seq (.block 1 (.seq (.reg 11 7 [o1 17 (.mv (.t 4)) 11,o1 18 (.mv (.t 5)) 12,o1 19 (.iaddr 2 (.t 17) (.t 18)) 13,o1 20 (.faddr 0 (.t 19)) 14,o1 21 (.load 1 .false (.t 20)) 15,o1 6 (.mv (.t 21)) 16,o1 7 (.mv (.k (.int .i64 0))) 17]) (.seq (.block 2 (.loop
 (.seq (.seq (.draw 18 10 [] [] [o3 22 (.mv (.t 4)) 18,o3 23 (.mv (.t 5)) 19,o3 24 (.iaddr 2 (.t 22) (.t 23)) 20,o3 25 (.faddr 1 (.t 24)) 21,o3 26 (.load 1 .false (.t 25)) 22,o3 27 (.mv (.t 6)) 23,o3 28 (.bin .sub (.t 26) (.t 27)) 24,o3 29 (.faddr 2 (.t 1)) 25,o3 30 (.load 1 .false (.t 29)) 26,o3 31 (.bin .geq (.t 28) (.t 30)) 27]) (.cond (.t 31) .skip (.exit 2))) (.block 3 (.seq (.reg 28 10 [o1 32 (.mv (.t 3)) 28,o1 33 (.mv (.t 6)) 29,o1 34 (.mv (.t 6)) 30,o1 35 (.faddr 2 (.t 1)) 31,o1 36 (.load 1 .false (.t 35)) 32,o1 37 (.bin .add (.t 34) (.t 36)) 33,o1 38 (.bld [(0,1),(1,1)] [.int .i64 0, .int .i64 0] [(0, .t 33),(1, .t 37)]) 34,o1 39 (.bsl 119 2 1 [.int .i64 0, .int .i64 0] [(0, .t 38)]) 35,o1 40 (.app 119 2 16 (.t 32) (.t 39)) 36,o1 3 (.mv (.t 40)) 37]) (.seq (.reg 38 5 [o1 41 (.mv (.t 6)) 38,o1 42 (.faddr 2 (.t 1)) 39,o1 43 (.load 1 .false (.t 42)) 40,o1 44 (.bin .add (.t 41) (.t 43)) 41,o1 6 (.mv (.t 44)) 42]) (.reg 43 3 [o1 45 (.mv (.t 7)) 43,o1 46 (.bin .add (.t 45) (.k (.int .i64 1))) 44,o1 7 (.mv (.t 46)) 45]))))))) (.seq (.reg 46 8 [o1 47 (.mv (.t 4)) 46,o1 48 (.mv (.t 5)) 47,o1 49 (.iaddr 2 (.t 47) (.t 48)) 48,o1 50 (.faddr 1 (.t 49)) 49,o1 51 (.load 1 .false (.t 50)) 50,o1 52 (.mv (.t 6)) 51,o1 53 (.bin .sub (.t 51) (.t 52)) 52,o1 8 (.mv (.t 53)) 53]) (.seq (.reg 54 12 [o1 54 (.mv (.t 8)) 54,o1 55 (.bin .gtr (.t 54) (.k (.int .i64 0))) 55,o1 56 (.mv (.t 55)) 56, .mk (.some 57) (.mv (.t 8)) (.some (56,
 .true)) 57 .none .false [] .false, .mk (.some 58) (.faddr 3 (.t 1)) (.some (56, .true)) 58 .none .false [] .false, .mk (.some 59) (.load 1 .false (.t 58)) (.some (56, .true)) 59
 .none .false [] .false, .mk (.some 60) (.bin .geq (.t 57) (.t 59)) (.some (56, .true)) 60 .none .false [] .false, .mk (.some 61) (.mv (.t 60)) (.some (56, .true)) 61 .none .false
 [] .false, .mk (.some 62) (.mv (.t 7)) (.some (61, .false)) 62 .none .false [] .false, .mk (.some 63) (.bin .eql (.t 62) (.k (.int .i64 0))) (.some (61, .false)) 63 .none .false
 [] .false, .mk (.some 64) (.pick (.t 61) (.k (.bool .true)) (.t 63)) (.some (56, .true)) 64 .none .false [] .false,o1 65 (.pick (.t 56) (.t 64) (.k (.bool .false))) 65]) (.cond (.t 65) (.reg 66 11 [o1 66 (.mv (.t 3)) 66,o1 67 (.mv (.t 6)) 67,o1 68 (.mv (.t 4)) 68,o1 69 (.mv (.t 5)) 69,o1 70 (.iaddr 2 (.t 68) (.t 69)) 70,o1 71 (.faddr 1 (.t 70)) 71,o1 72 (.load 1 .false (.t 71)) 72,o1 73 (.bld [(0,1),(1,1)] [.int .i64 0, .int .i64 0] [(0, .t 67),(1, .t 72)]) 73,o1 74 (.bsl 119 2 1 [.int .i64 0, .int .i64 0] [(0, .t 73)]) 74,o1 75 (.app 119 2 16 (.t 66) (.t 74)) 75,o1 3 (.mv (.t 75)) 76]) (.seq (.reg 77 2 [o1 76 (.mv (.t 8)) 77,o1 77 (.bin .gtr (.t 76) (.k (.int .i64 0))) 78])
 (.cond (.t 77) (.reg 79 12 [o1 78 (.mv (.t 3)) 79,o1 79 (.mv (.t 3)) 80,o1 80 (.len (.t 79)) 81,o1 81 (.bin .sub (.t 80) (.k (.int .i64 1))) 82,o1 82 (.mv (.t 4)) 83,o1 83 (.mv (.t 5)) 84,o1 84 (.iaddr 2 (.t 82) (.t 83)) 85,o1 85 (.faddr 1 (.t 84)) 86,o1 86 (.load 1 .false (.t 85)) 87,o1 87 (.iaddr 2 (.t 78) (.t 81)) 88,o1 88 (.faddr 1 (.t 87)) 89,o2 (.store 1 (.t 88) (.t 86)) 90]) .skip)))))))) (.reg 91 3 [o1 15 (.mv (.t 5)) 91,o1 16 (.bin .add (.t 15) (.k (.int .i64 1))) 92,o1 5 (.mv (.t 16)) 93])))))) (.seq (.reg 94 2 [o1 89 (.mv (.t 3)) 94,o1 2 (.mv (.t 89)) 95])
 .ret))))
def rs33:List IRes:=[.tmp 2]
set_option maxRecDepth 100000 in
theorem comp33:Comp Try.prog 36 ir33 rs33 90:=⟨⟨_,_,96,Try.func36,rfl,by kernel_rfl,by kernel_rfl,rfl⟩⟩
theorem body33:HasBody Try.prog 36:=hasBody_of (by kernel_rfl)

def ir35:IC :=
 .seq (.reg 0 3 [o1 1 (.box 51 (.t 0)) 0,o1 2 (.mv (.k (.slice .none 0 0))) 1,o1 3 (.mv (.k (.int .i64 0))) 2]) (.seq (.seq (.reg 3 3 [o1 5 (.load 4 .true (.t 1)) 3,o1 6 (.call 72 [.t 5]) 4,o1 7 (.un .not (.t 6)) 5]) (.cond (.t 7) (.seq (.reg 6 2 [o1 2 (.mv (.k (.slice .none 0 0))) 6,o1 3 (.mv (.k (.int .i64 1))) 7]) .ret) .skip)) (.seq (.reg 8 3 [o1 8 (.load 4 .true (.t 1)) 8,o1 9 (.call 73 [.t 8]) 9,o1 4 (.mv (.t 9)) 10]) (.seq (.seq (.reg 11 3 [o1 10 (.mv (.t 4)) 11,o1 11 (.len (.t 10)) 12,o1 12 (.bin .gtr (.t 11) (.k (.int .i64 40))) 13]) (.cond (.t 12) (.seq (.reg 14 2 [o1 2 (.mv (.k (.slice .none 0 0))) 14,o1 3 (.mv (.k (.int .i64 3))) 15]) .ret) .skip)) (.seq (.reg 16 3 [o1 13 (.mv (.t 4)) 16,o1 2 (.mv (.t 13)) 17,
 o1 3 (.mv (.k (.int .i64 0))) 18]) .ret))))
def rs35:List IRes:=[.tmp 2, .tmp 3]
set_option maxRecDepth 100000 in
theorem comp35:Comp Try.prog 42 ir35 rs35 14:=⟨⟨_,_,19,Try.func42,rfl,by kernel_rfl,by kernel_rfl,rfl⟩⟩
theorem body35:HasBody Try.prog 42:=hasBody_of (by kernel_rfl)

def ir36:IC :=
 .seq (.reg 0 1 [o1 6 (.mv (.k (.bool .false))) 0]) (.seq (.reg 1 9 [o1 7 (.mv (.t 0)) 1,o1 8 (.mv (.t 1)) 2,o1 9 (.bin .geq (.t 7) (.t 8)) 3,o1 10 (.mv (.t 9)) 4,
 .mk (.some 11) (.mv (.t 0)) (.some (10, .true)) 5 .none .false [] .false, .mk (.some 12) (.mv (.t 2)) (.some (10, .true)) 6 .none .false [] .false, .mk (.some 13) (.bin .leq (.t
 11) (.t 12)) (.some (10, .true)) 7 .none .false [] .false,o1 14 (.pick (.t 10) (.t 13) (.k (.bool .false))) 8,o1 6 (.mv (.t 14)) 9]) .ret)
def rs36:List IRes:=[.tmp 6]
set_option maxRecDepth 100000 in
theorem comp36:Comp Try.prog 37 ir36 rs36 15:=⟨⟨_,_,10,Try.func37,rfl,by kernel_rfl,by kernel_rfl,rfl⟩⟩
theorem body36:HasBody Try.prog 37:=hasBody_of (by kernel_rfl)

def ir37:IC :=
 .seq (.reg 0 1 [o1 6 (.mv (.k (.bool .false))) 0]) (.seq (.reg 1 9 [o1 7 (.mv (.t 1)) 1,o1 8 (.mv (.t 0)) 2,o1 9 (.bin .leq (.t 7) (.t 8)) 3,o1 10 (.mv (.t 9)) 4,
 .mk (.some 11) (.mv (.t 0)) (.some (10, .true)) 5 .none .false [] .false, .mk (.some 12) (.mv (.t 2)) (.some (10, .true)) 6 .none .false [] .false, .mk (.some 13) (.bin .leq (.t
 11) (.t 12)) (.some (10, .true)) 7 .none .false [] .false,o1 14 (.pick (.t 10) (.t 13) (.k (.bool .false))) 8,o1 6 (.mv (.t 14)) 9]) .ret)
def rs37:List IRes:=[.tmp 6]
set_option maxRecDepth 100000 in
theorem comp37:Comp Try.prog 43 ir37 rs37 15:=⟨⟨_,_,10,Try.func43,rfl,by kernel_rfl,by kernel_rfl,rfl⟩⟩
theorem body37:HasBody Try.prog 43:=hasBody_of (by kernel_rfl)

def ir38:IC :=
 .seq (.reg 1 1 [o1 4 (.mv (.k (.int .i64 0))) 1]) (.seq (.seq (.reg 2 3 [o1 6 (.mv (.t 0)) 2,o1 7 (.len (.t 6)) 3,o1 8 (.mv (.k (.int .i64 0))) 4]) (.block 0 (.loop (.seq (.reg 5 1 [o1 9 (.bin .lss (.t 8) (.t 7)) 5]) (.seq (.cond (.t 9) .skip (.exit 0)) (.seq (.block 1 (.seq (.reg 6 2 [o1 10 (.mv (.t 8)) 6,
 o1 5 (.mv (.t 10)) 7]) (.seq (.reg 8 6 [o1 11 (.mv (.t 1)) 8,o1 12 (.mv (.t 0)) 9,o1 13 (.mv (.t 5)) 10,o1 14 (.iaddr 2 (.t 12) (.t 13)) 11,o1 15 (.load 2 .true (.t 14)) 12,o1 16 (.callv (.t 11) [.t 15]) 13]) (.cond (.t 16) (.seq (.reg 14 2 [o1 17 (.mv (.t 5)) 14,o1 4 (.mv (.t 17)) 15]) .ret) .skip)))) (.reg 16 2 [o1 18 (.bin .add (.t 8) (.k (.int .i64 1))) 16,o1 8 (.mv (.t 18)) 17]))))))) (.seq (.reg 18 1 [o1 4 (.mv (.k (.int .i64 (-1)))) 18]) .ret))
def rs38:List IRes:=[.tmp 4]
set_option maxRecDepth 100000 in
theorem comp38:CompAt Try.prog 44 1 ir38 rs38 19:=⟨⟨_,_,19,Try.func44,rfl,by kernel_rfl,by kernel_rfl,rfl⟩⟩
theorem body38:HasBody Try.prog 44:=hasBody_of (by kernel_rfl)

def ir39:IC :=
 .seq (.reg 1 2 [o1 2 (.box 54 (.t 0)) 1,o1 3 (.mv (.k (.bool .false))) 2]) (.seq (.reg 3 4 [o1 4 (.load 2 .true (.t 2)) 3,o1 5 (.load 1 .false (.t 1)) 4,o1 6 (.call 46 [.t 4, .t 5]) 5,o1 3 (.mv (.t 6)) 6]) .ret)
def rs39:List IRes:=[.tmp 3]
set_option maxRecDepth 100000 in
theorem comp39:CompAt Try.prog 45 1 ir39 rs39 7:=⟨⟨_,_,7,Try.func45,rfl,by kernel_rfl,by kernel_rfl,rfl⟩⟩
theorem body39:HasBody Try.prog 45:=hasBody_of (by kernel_rfl)

def ir40:IC :=
 .seq (.reg 0 2 [o1 2 (.box 54 (.t 0)) 0,o1 4 (.mv (.k (.bool .false))) 1]) (.seq (.reg 2 11 [o1 5 (.faddr 0 (.t 2)) 2,o1 6 (.load 1 .false (.t 5)) 3,o1 7 (.mv (.t 1)) 4,o1 8 (.bin .leq (.t 6) (.t 7)) 5,o1 9 (.mv (.t 8)) 6, .mk (.some 10) (.mv (.t 1)) (.some (9,
 .true)) 7 .none .false [] .false, .mk (.some 11) (.faddr 1 (.t 2)) (.some (9, .true)) 8 .none .false [] .false, .mk (.some 12) (.load 1 .false (.t 11)) (.some (9, .true)) 9 .none
 .false [] .false, .mk (.some 13) (.bin .lss (.t 10) (.t 12)) (.some (9, .true)) 10 .none .false [] .false,o1 14 (.pick (.t 9) (.t 13) (.k (.bool .false))) 11,o1 4 (.mv (.t 14)) 12]) .ret)
def rs40:List IRes:=[.tmp 4]
set_option maxRecDepth 100000 in
theorem comp40:Comp Try.prog 46 ir40 rs40 15:=⟨⟨_,_,13,Try.func46,rfl,by kernel_rfl,by kernel_rfl,rfl⟩⟩
theorem body40:HasBody Try.prog 46:=hasBody_of (by kernel_rfl)

def ir50:IC :=
 .seq (.reg 0 2 [o1 1 (.box 24 (.t 0)) 0,o1 2 (.mv (.k (.slice .none 0 0))) 1]) (.seq (.reg 2 1 [o1 3 (.mv (.k (.slice .none 0 0))) 2]) (.seq (.reg 3 1 [o1 4 (.mv (.k (.int .i64 0))) 3]) (.seq (.seq (.reg
 4 1 [o1 5 (.mv (.k (.int .i64 0))) 4]) (.block 0 (.loop (.seq (.seq (.reg 5 5 [o1 6 (.mv (.t 5)) 5,o1 7 (.faddr 1 (.t 1)) 6,o1 8 (.load 1 .false (.t 7)) 7,o1 9 (.len (.t 8)) 8,o1 10 (.bin .lss (.t 6) (.t 9)) 9]) (.cond (.t 10) .skip (.exit 0))) (.seq (.block 1 (.seq (.seq (.reg 10 8 [o1 13 (.faddr 1 (.t 1)) 10,o1 14 (.load 1 .false (.t 13)) 11,o1 15 (.mv (.t 5)) 12,o1 16 (.iaddr 2 (.t 14) (.t 15)) 13,o1 17 (.faddr 0 (.t 16)) 14,o1 18 (.load 1 .false (.t 17)) 15,o1 19 (.mv (.t 4)) 16,o1 20 (.bin .gtr (.t 18) (.t 19)) 17]) (.cond (.t 20) (.reg 18 12 [o1 21 (.mv (.t 3)) 18,o1 22 (.mv (.t 4)) 19,o1 23 (.faddr 1 (.t 1)) 20,o1 24 (.load 1 .false (.t 23)) 21,o1 25 (.mv (.t 5)) 22,o1 26 (.iaddr 2 (.t 24) (.t 25)) 23,o1 27 (.faddr 0 (.t 26)) 24,o1 28 (.load 1 .false (.t 27)) 25,o1 29 (.bld [(0,1),(1,1)] [.int .i64 0, .int .i64 0] [(0, .t 22),(1, .t 28)]) 26,o1 30 (.bsl 119 2 1 [.int .i64 0, .int .i64 0] [(0, .t 29)]) 27,o1 31 (.app 119 2 16 (.t 21) (.t 30)) 28,
 o1 3 (.mv (.t 31)) 29]) .skip)) (.reg 30 7 [o1 32 (.faddr 1 (.t 1)) 30,o1 33 (.load 1 .false (.t 32)) 31,o1 34 (.mv (.t 5)) 32,o1 35 (.iaddr 2 (.t 33) (.t 34)) 33,
 o1 36 (.faddr 1 (.t 35)) 34,o1 37 (.load 1 .false (.t 36)) 35,o1 4 (.mv (.t 37)) 36]))) (.reg 37 3 [o1 11 (.mv (.t 5)) 37,o1 12 (.bin .add (.t 11) (.k (.int .i64 1))) 38,o1 5 (.mv (.t 12)) 39])))))) (.seq (.seq (.reg 40 4 [o1 38 (.mv (.t 4)) 40,o1 39 (.faddr 0 (.t 1)) 41,o1 40 (.load 1 .false (.t 39)) 42,o1 41 (.bin .lss (.t 38) (.t 40)) 43]) (.cond (.t 41) (.reg 44 8 [o1 42 (.mv (.t 3)) 44,o1 43 (.mv (.t 4)) 45,o1 44 (.faddr 0 (.t 1)) 46,o1 45 (.load 1 .false (.t 44)) 47,o1 46 (.bld [(0,1),(1,1)] [.int .i64 0, .int .i64 0] [(0, .t 43),(1, .t 45)]) 48,o1 47 (.bsl 119 2 1 [.int .i64 0, .int .i64 0] [(0, .t 46)]) 49,o1 48 (.app 119 2 16 (.t 42) (.t 47)) 50,o1 3 (.mv (.t 48)) 51]) .skip)) (.seq (.reg 52 2 [o1 49 (.mv (.t 3)) 52,o1 2 (.mv (.t 49)) 53]) .ret)))))
def rs50:List IRes:=[.tmp 2]
set_option maxRecDepth 100000 in
theorem comp50:Comp Try.prog 65 ir50 rs50 50:=⟨⟨_,_,54,Try.func65,rfl,by kernel_rfl,by kernel_rfl,rfl⟩⟩
theorem body50:HasBody Try.prog 65:=hasBody_of (by kernel_rfl)

def ir51:IC :=
 .seq (.reg 0 2 [o1 1 (.box 51 (.t 0)) 0,o1 2 (.mv (.k (.bool .false))) 1]) (.seq (.reg 2 2 [o1 3 (.mv (.k (.int .i64 (-1)))) 2,o1 4 (.mv (.k (.bool .true))) 3]) (.seq .skip (.seq (.seq (.reg 4 4 [o1 7 (.faddr 1 (.t 1)) 4,o1 8 (.load 1 .false (.t 7)) 5,o1 9 (.len (.t 8)) 6,o1 10 (.mv (.k (.int .i64 0))) 7]) (.block 0 (.loop (.seq (.reg 8 1 [o1 11 (.bin .lss (.t 10) (.t 9)) 8]) (.seq (.cond (.t 11) .skip (.exit 0)) (.seq (.block 1 (.seq (.reg 9 4 [o1 12 (.iaddr 2 (.t 8) (.t 10)) 9,o1 13 (.load 2 .true (.t 12)) 10,o1 6 (.alloc 54 [.int .i64 0, .int .i64 0]) 11,o2 (.store 2 (.t 6) (.t 13)) 12]) (.seq (.seq (.reg 13 16 [o1 14 (.faddr 0 (.t 6)) 13,o1 15 (.load 1 .false (.t 14)) 14,o1 16 (.mv (.t 3)) 15,o1 17 (.bin .leq (.t 15) (.t 16)) 16,o1 18 (.mv (.t 17)) 17, .mk (.some 19) (.load 2 .true (.t 6)) (.some (18, .false)) 18 .none .false [] .false, .mk (.some 20) (.call 103 [.t 19]) (.some (18, .false))
 19 .none .false [] .false, .mk (.some 21) (.bin .leq (.t 20) (.k (.int .i64 0))) (.some (18, .false)) 20 .none .false [] .false,o1 22 (.pick (.t 18) (.k (.bool .true)) (.t 21)) 21,o1 23 (.mv (.t 22)) 22, .mk (.some 24) (.faddr 1 (.t 6)) (.some (23, .false)) 23 .none .false []
 .false, .mk (.some 25) (.load 1 .false (.t 24)) (.some (23, .false)) 24 .none .false [] .false, .mk (.some 26) (.faddr 0 (.t 1)) (.some (23, .false)) 25 .none .false [] .false,
 .mk (.some 27) (.load 1 .false (.t 26)) (.some (23, .false)) 26 .none .false [] .false, .mk (.some 28) (.bin .gtr (.t 25) (.t 27)) (.some (23, .false)) 27 .none .false [] .false,
 o1 29 (.pick (.t 23) (.k (.bool .true)) (.t 28)) 28]) (.cond (.t 29) (.seq (.reg 29 1 [o1 4 (.mv (.k (.bool .false))) 29]) (.exit 0)) .skip)) (.reg 30 3 [o1 30 (.faddr 1 (.t 6)) 30,o1 31 (.load 1 .false (.t 30)) 31,o1 3 (.mv (.t 31)) 32])))) (.reg 33 2 [o1 32 (.bin .add (.t 10) (.k (.int .i64 1))) 33,o1 10 (.mv (.t 32)) 34]))))))) (.seq (.reg 35 19 [o1 33 (.mv (.t 4)) 35,o1 34 (.mv (.t 33)) 36, .mk (.some 35) (.faddr 0 (.t 1)) (.some (34, .true)) 37 .none .false [] .false, .mk (.some 36) (.load 1 .false (.t 35)) (.some (34, .true)) 38 .none
 .false [] .false, .mk (.some 37) (.call 43 [.t 36, .k (.int .i64 1), .k (.int .i64 36000)]) (.some (34, .true)) 39 .none .false [] .false,o1 38 (.pick (.t 34) (.t 37) (.k (.bool .false))) 40,o1 39 (.mv (.t 38)) 41, .mk (.some 40) (.faddr 2 (.t 1)) (.some (39, .true)) 42 .none
 .false [] .false, .mk (.some 41) (.load 1 .false (.t 40)) (.some (39, .true)) 43 .none .false [] .false, .mk (.some 42) (.call 43 [.t 41, .k (.int .i64 1), .k (.int .i64 1200)])
 (.some (39, .true)) 44 .none .false [] .false,o1 43 (.pick (.t 39) (.t 42) (.k (.bool .false))) 45,o1 44 (.mv (.t 43)) 46, .mk (.some 45) (.faddr 3 (.t 1)) (.some (44, .true)) 47 .none .false [] .false, .mk (.some 46) (.load 1 .false (.t 45)) (.some (44, .true)) 48 .none .false
 [] .false, .mk (.some 47) (.faddr 2 (.t 1)) (.some (44, .true)) 49 .none .false [] .false, .mk (.some 48) (.load 1 .false (.t 47)) (.some (44, .true)) 50 .none .false [] .false,
 .mk (.some 49) (.call 43 [.t 46, .k (.int .i64 1), .t 48]) (.some (44, .true)) 51 .none .false [] .false,o1 50 (.pick (.t 44) (.t 49) (.k (.bool .false))) 52,o1 2 (.mv (.t 50)) 53]) .ret))))
def rs51:List IRes:=[.tmp 2]
set_option maxRecDepth 100000 in
theorem comp51:Comp Try.prog 72 ir51 rs51 51:=⟨⟨_,_,54,Try.func72,rfl,by kernel_rfl,by kernel_rfl,rfl⟩⟩
theorem body51:HasBody Try.prog 72:=hasBody_of (by kernel_rfl)

def ir52:IC :=
 .seq (.reg 0 2 [o1 1 (.box 51 (.t 0)) 0,o1 2 (.alloc 47 [.slice .none 0 0]) 1]) (.seq (.seq (.reg 2 2
 [o1 7 (.load 4 .true (.t 1)) 2,o1 8 (.call 104 [.t 7]) 3]) (.block 0 (.range (.t 8) [9] (.reg 4 2 [o1 3 (.alloc 54 [.int .i64 0, .int .i64 0]) 4,o2 (.store 2 (.t 3) (.t 9)) 5]) (.block 1 (.seq (.draw 6 6 [3]
 [] [o3 10 (.load 2 .true (.t 3)) 6,o3 11 (.call 103 [.t 10]) 7,o3 12 (.faddr 2 (.t 1)) 8,o3 13 (.load 1 .false (.t 12)) 9, .mk (.some 14) (.bin .quo (.t 11) (.t 13)) .none 10 (.some [7])
 .true [] .false, .mk (.some 4) (.mv (.t 14)) .none 11 (.some [7]) .true [] .false]) (.seq (.seq (.reg 12 2 [o1 15 (.mv (.t 4)) 12,o1 16 (.mv (.k (.int .i64 0))) 13]) (.block 2 (.loop (.seq (.reg 14 1 [o1 17 (.bin .lss (.t 16) (.t 15)) 14])
 (.seq (.cond (.t 17) .skip (.exit 2)) (.seq (.block 3 (.seq (.reg 15 2 [o1 18 (.mv (.t 16)) 15,o1 5 (.mv (.t 18)) 16]) (.reg 17 20 [o1 19 (.load 1 .false (.t 2)) 17,o1 20 (.faddr 0 (.t 3)) 18,o1 21 (.load 1 .false (.t 20)) 19,o1 22 (.mv (.t 5)) 20,o1 23 (.faddr 2 (.t 1)) 21,o1 24 (.load 1 .false (.t 23)) 22,o1 25 (.bin .mul (.t 22) (.t 24)) 23,o1 26 (.bin .add (.t 21) (.t 25)) 24,o1 27 (.faddr 0 (.t 3)) 25,o1 28 (.load 1 .false (.t 27)) 26,o1 29 (.mv (.t 5)) 27,o1 30 (.bin .add (.t 29) (.k (.int .i64 1))) 28,o1 31 (.faddr 2 (.t 1)) 29,o1 32 (.load 1 .false (.t 31)) 30,o1 33 (.bin .mul (.t 30) (.t 32)) 31,o1 34 (.bin .add (.t 28) (.t 33)) 32,o1 35 (.bld [(0,1),(1,1)] [.int .i64 0, .int .i64 0] [(0, .t 26),(1, .t 34)]) 33,o1 36 (.bsl 54 2 1 [.int .i64 0, .int .i64 0] [(0, .t 35)]) 34,o1 37 (.app 54 2 16 (.t 19) (.t 36)) 35,o2 (.store 1 (.t 2) (.t 37)) 36]))) (.reg 37 2 [o1 38 (.bin .add (.t 16) (.k (.int .i64 1))) 37,o1 16 (.mv (.t 38)) 38]))))))) (.seq (.reg 39 12 [o1 39 (.faddr 0 (.t 3)) 39,o1 40 (.load 1 .false (.t 39)) 40,o1 41 (.mv (.t 4)) 41,o1 42 (.faddr 2 (.t 1)) 42,o1 43 (.load 1 .false (.t 42)) 43,o1 44 (.bin .mul (.t 41) (.t 43)) 44,o1 45 (.bin .add (.t 40) (.t 44)) 45,o1 46 (.faddr 1 (.t 3)) 46,o1 47 (.load 1 .false (.t 46)) 47,o1 48 (.bld [(0,1),(1,1)] [.int .i64 0, .int .i64 0] [(0, .t 45),(1, .t 47)]) 48,o1 6 (.alloc 54 [.int .i64 0, .int .i64 0]) 49,o2 (.store 2 (.t 6) (.t 48)) 50]) (.block 4 (.seq
 (.reg 51 4 [o1 58 (.load 2 .true (.t 6)) 51,o1 59 (.call 103 [.t 58]) 52,o1 60 (.bin .eql (.t 59) (.k (.int .i64 0))) 53,o1 57 (.mv (.t 60)) 54]) (.cond (.t 57) .skip (.seq (.draw 55 10 [6] [] [o3 62 (.load 2 .true (.t 6)) 55,o3 63 (.call 103 [.t 62]) 56,o3 64 (.faddr 3 (.t 1)) 57,o3 65 (.load 1 .false (.t 64)) 58, .mk (.some 66) (.bin .geq (.t 63) (.t 65)) .none 59 (.some [56])
 .true [] .false, .mk (.some 67) (.mv (.t 66)) .none 60 (.some [56]) .true [] .false, .mk (.some 68) (.mv (.t 4)) (.some (67, .false)) 61 (.some [56]) .true [] .false, .mk (.some
 69) (.bin .eql (.t 68) (.k (.int .i64 0))) (.some (67, .false)) 62 (.some [56]) .true [] .false, .mk (.some 70) (.pick (.t 67) (.k (.bool .true)) (.t 69)) .none 63 (.some [56])
 .true [] .false, .mk (.some 61) (.mv (.t 70)) .none 64 (.some [56]) .true [] .false]) (.cond (.t 61) (.reg 65 5 [o1 71 (.load 1 .false (.t 2)) 65,o1 72 (.load 2 .true (.t 6)) 66,o1 73 (.bsl 54 2 1 [.int .i64 0, .int .i64 0] [(0, .t 72)]) 67,o1 74 (.app 54 2 16 (.t 71) (.t 73)) 68,o2 (.store 1 (.t 2) (.t 74)) 69]) (.reg 70 9 [o1 49 (.load 1 .false (.t 2)) 70,o1 50 (.load 1 .false (.t 2)) 71,o1 51 (.len (.t 50)) 72,o1 52 (.bin .sub (.t 51) (.k (.int .i64 1))) 73,o1 53 (.faddr 1 (.t 3)) 74,o1 54 (.load 1 .false (.t 53)) 75,o1 55 (.iaddr 2 (.t 49) (.t 52)) 76,o1 56 (.faddr 1 (.t 55)) 77,o2 (.store 1 (.t 56) (.t 54)) 78]))))))))))))) (.seq (.reg 79 2 [o1 75 (.load 1 .false (.t 2)) 79,o2 (.store 1 (.t 2) (.t 75)) 80]) .ret))
def rs52:List IRes:=[.cell 2 1 .false]
set_option maxRecDepth 100000 in
theorem comp52:Comp Try.prog 73 ir52 rs52 76:=⟨⟨_,_,81,Try.func73,rfl,by kernel_rfl,by kernel_rfl,rfl⟩⟩
theorem body52:HasBody Try.prog 73:=hasBody_of (by kernel_rfl)

def ir61:IC :=
 .seq (.reg 0 2 [o1 1 (.box 54 (.t 0)) 0,o1 2 (.mv (.k (.int .i64 0))) 1]) (.seq (.reg 2 6 [o1 3 (.faddr 1 (.t 1)) 2,o1 4 (.load 1 .false (.t 3)) 3,o1 5 (.faddr 0 (.t 1)) 4,o1 6 (.load 1 .false (.t 5)) 5,o1 7 (.bin .sub (.t 4) (.t 6)) 6,o1 2 (.mv (.t 7)) 7]) .ret)
def rs61:List IRes:=[.tmp 2]
set_option maxRecDepth 100000 in
theorem comp61:Comp Try.prog 103 ir61 rs61 8:=⟨⟨_,_,8,Try.func103,rfl,by kernel_rfl,by kernel_rfl,rfl⟩⟩
theorem body61:HasBody Try.prog 103:=hasBody_of (by kernel_rfl)

def ir64:IC :=
 .seq (.reg 0 2 [o1 1 (.box 51 (.t 0)) 0,o1 2 (.mv (.k .nilFunc)) 1]) (.seq (.reg 2 2 [o1 3 (.mkf 144 [] [.t 1]) 2,o1 2 (.mv (.t 3)) 3]) .ret)
def rs64:List IRes:=[.tmp 2]
set_option maxRecDepth 100000 in
theorem comp64:Comp Try.prog 104 ir64 rs64 4:=⟨⟨_,_,4,Try.func104,rfl,by kernel_rfl,by kernel_rfl,rfl⟩⟩
theorem body64:HasBody Try.prog 104:=hasBody_of (by kernel_rfl)

def ir69:IC :=
 .seq (.reg 0 1 [o1 3 (.mv (.k (.int .i64 0))) 0]) (.seq (.draw 1 12 [1] [] [o3 7 (.faddr 1 (.t 1)) 1,
 o3 8 (.load 1 .false (.t 7)) 2,o3 9 (.call 145 [.t 8]) 3,o3 10 (.faddr 0 (.t 1)) 4,o3 11 (.load 1 .false (.t 10)) 5,o3 12 (.faddr 0 (.t 1)) 6,o3 13 (.load 1 .false (.t 12)) 7,o3 14 (.bld [(0,1),(1,1)] [.int .i64 0, .int .i64 0] [(0, .t 11),(1, .t 13)]) 8,o3 15 (.bsl 54 2 1 [.int .i64 0, .int .i64 0] [(0, .t 14)]) 9, .mk (.some 16) (.app 54 2 16 (.t 9)
 (.t 15)) .none 10 (.some [9,3]) .false [] .false, .mk (.some 17) (.len (.t 16)) .none 11 (.some [3,9,10]) .true [] .false,o3 18 (.mv (.k (.int .i64 0))) 12]) (.block 0 (.loop (.seq (.reg 13 1 [o1 19 (.bin .lss (.t 18) (.t 17)) 13]) (.seq (.cond (.t 19) .skip (.exit 0))
 (.seq (.block 1 (.seq (.reg 14 4 [o1 20 (.iaddr 2 (.t 16) (.t 18)) 14,o1 21 (.load 2 .true (.t 20)) 15,o1 5 (.alloc 54 [.int .i64 0, .int .i64 0]) 16,o2 (.store 2 (.t 5) (.t 21)) 17]) (.seq (.seq
 (.reg 18 6 [o1 22 (.mv (.t 3)) 18,o1 23 (.faddr 0 (.t 5)) 19,o1 24 (.load 1 .false (.t 23)) 20,o1 25 (.bld [(0,1),(1,1)] [.int .i64 0, .int .i64 0] [(0, .t 22),(1, .t 24)]) 21,o1 6 (.alloc 54 [.int .i64 0, .int .i64 0]) 22,o2 (.store 2 (.t 6) (.t 25)) 23]) (.seq (.reg 24 9 [o1 26 (.load 2 .true (.t 6)) 24,o1 27 (.call 103 [.t 26]) 25,o1 28 (.bin .gtr (.t 27) (.k (.int .i64 0))) 26,o1 29 (.mv (.t 28)) 27, .mk (.some 30) (.mv (.t 0)) (.some (29, .true)) 28 .none .false [] .false, .mk (.some 31)
 (.load 2 .true (.t 6)) (.some (29, .true)) 29 .none .false [] .false, .mk (.some 32) (.callv (.t 30) [.t 31]) (.some (29, .true)) 30 .none .false [] .false, .mk (.some 33) (.un
 .not (.t 32)) (.some (29, .true)) 31 .none .false [] .false,o1 34 (.pick (.t 29) (.t 33) (.k (.bool .false))) 32]) (.cond (.t 34) .ret
 .skip))) (.reg 33 3 [o1 35 (.faddr 1 (.t 5)) 33,o1 36 (.load 1 .false (.t 35)) 34,o1 3 (.mv (.t 36)) 35])))) (.reg 36 2 [o1 37 (.bin .add (.t 18) (.k (.int .i64 1))) 36,o1 18 (.mv (.t 37)) 37])))))))
def rs69:List IRes:=[]
set_option maxRecDepth 100000 in
theorem comp69:Comp Try.prog 144 ir69 rs69 38:=⟨⟨_,_,38,Try.func144,rfl,by kernel_rfl,by kernel_rfl,rfl⟩⟩
theorem body69:HasBody Try.prog 144:=hasBody_of (by kernel_rfl)

def ir70:IC :=
 .seq (.reg 0 1 [o1 2 (.mv (.k (.slice .none 0 0))) 0]) (.seq (.seq (.reg 1 2 [o1 3 (.mv (.t 0)) 1,o1 4 (.pur (.bin .eql 47) [.t 3, .k (.slice .none 0 0)]) 2]) (.cond (.t 4) (.seq (.reg 3 1 [o1 2 (.mv (.k (.slice .none 0 0))) 3]) .ret) .skip)) (.seq (.reg 4 4 [o1 5 (.bsl 54 2 0 [] []) 4,o1 6 (.mv (.t 0)) 5,o1 7 (.app 54 2 16 (.t 5) (.t 6)) 6,o1 2 (.mv (.t 7)) 7]) .ret))
def rs70:List IRes:=[.tmp 2]
set_option maxRecDepth 100000 in
theorem comp70:Comp Try.prog 145 ir70 rs70 8:=⟨⟨_,_,8,Try.func145,rfl,by kernel_rfl,by kernel_rfl,rfl⟩⟩
theorem body70:HasBody Try.prog 145:=hasBody_of (by kernel_rfl)

end Go.Proofs.Ytefnikpoimaiiaa.L

namespace Go.Pal
open Go.RowKit

abbrev GRel (α:Type):=List Value→Hp→α→Prop

structure GOk {α:Type} (R:GRel α):Prop where
 uniq:∀ args G x y,R args G x→R args G y→x = y
 grow:∀ args G G' x,Grow G G'→R args G x→R args G' x
def gsca {α:Type} (R:GRel α) (q:α→Value→Prop):PSpec:=.sca (fun args G=>∃ x,R args G x) (fun args G v=>∃ x,R args G x∧q x v)
def grel {α:Type} (R:GRel α) (q:α→Value→Hp→Prop):PSpec:=.rel (fun args G=>∃ x,R args G x) (fun args v G'=>∃ x,R args G' x∧q x v G')
def gown {α:Type} (t:TypeId) (k:Nat) (R:GRel α) (q:α→Nat→List Value→Prop):PSpec:=.own t k (fun args G=>∃ x,R args G x) (fun args n vs G'=>∃ x,R args G' x∧q x n vs)

section
variable {P:Program} {f:FuncId} {ic:IC} {rs:List IRes} {nt:Nat} {α:Type} {R:GRel α}

theorem Comp.gsca (C:Comp P f ic rs nt) (T:Tab P) {q:α→Value→Prop} (hn:∀ args G x,R args G x→args.length≤nt) (h:∀ args G x,R args G x→funVC P T.get ic rs args G fun v _=>q x v):Sound P f id (gsca R q) :=
 fun args G W hs ⟨x,hx⟩=>(C.calls T (hn args G x hx) hs (h args G x hx)).mono fun e W' ⟨v,_,h1,h2,_,_,_,h3⟩=>⟨v,h1,⟨x,hx,h2⟩,h3⟩
theorem Comp.grel (C:Comp P f ic rs nt) (T:Tab P) (ok:GOk R) {q:α→Value→Hp→Prop} (hn:∀ args G x,R args G x→args.length≤nt) (hm:∀ x v G G',Grow G G'→q x v G→q x v G') (h:∀ args G x,R args G x→funVC P T.get ic rs args G fun v G'=>q x v G'):Sound P f id (grel R q) :=
 ⟨fun args v G G' hg ⟨x,h1,h2⟩=>⟨x,ok.grow _ _ _ _ hg h1,hm _ _ _ _ hg h2⟩,fun args G W hs ⟨x,hx⟩=>(C.calls T (hn args G x hx) hs (h args G x hx)).mono fun e W' ⟨v,G',h1,h2,h3,h4,h5,h6⟩=>⟨v,G',h1,⟨x,ok.grow _ _ _ _ h3 hx,h2⟩,h3,h4,h5,h6⟩⟩

theorem Comp.gown (C:Comp P f ic rs nt) (T:Tab P) (ok:GOk R) {t:TypeId} {k:Nat} {q:α→Nat→List Value→Prop} (hn:∀ args G x,R args G x→args.length≤nt) (h:∀ args G x,R args G x→ownVC P T.get t k ic rs args G fun n vs _=>q x n vs):Sound P f id (gown t k R q) :=
 ⟨fun args n vs G G' hg ⟨x,h1,h2⟩=>⟨x,ok.grow _ _ _ _ hg h1,h2⟩,fun args G W hs ⟨x,hx⟩=>(C.owns T (hn args G x hx) hs (h args G x hx)).mono fun e W' ⟨v,n,vs,G',h1,h2,h3,h4,h5,h6,h7,h8⟩=>⟨v,n,vs,G',h1,⟨x,ok.grow _ _ _ _ h7 hx,h2⟩,h3,h4,h5,h6,h7,h8⟩⟩
theorem ScaP.g (ok:GOk R) {q:α→Value→Prop} {args:List Value} {G:Hp} {A:Value→Prop} {x:α} (hx:R args G x) (h:∀ v,q x v→W (A v)):ScaP (∃ x,R args G x) (fun v=>∃ x,R args G x∧q x v) A :=
 ⟨⟨x,hx⟩,fun v ⟨y,hy,hq⟩=>h v ((ok.uniq _ _ _ _ hy hx) ▸ hq)⟩
theorem RelP.g (ok:GOk R) {q:α→Value→Hp→Prop} {args:List Value} {Gr G:Hp} {A:Value→Hp→Prop} {x:α} (hx:R args Gr x) (hg:Grow Gr G) (h:∀ v G',Grow G G'→q x v G'→W (A v G')):RelP (∃ x,R args Gr x) G (fun v G'=>∃ x,R args G' x∧q x v G') A :=
 ⟨⟨x,hx⟩,fun v G' hg' ⟨y,hy,hq⟩=>h v G' hg' ((ok.uniq _ _ _ _ hy (ok.grow _ _ _ _ (hg.trans hg') hx)) ▸ hq)⟩
theorem OwnP.g (ok:GOk R) {q:α→Nat→List Value→Prop} {args:List Value} {Gr G:Hp} {A:Nat→List Value→Hp→Prop} {x:α} (hx:R args Gr x) (hg:Grow Gr G) (h:∀ n vs G',Grow G G'→q x n vs→W (A n vs G')):OwnP (∃ x,R args Gr x) G (fun n vs G'=>∃ x,R args G' x∧q x n vs) A :=
 ⟨⟨x,hx⟩,fun n vs G' hg' ⟨y,hy,hq⟩=>h n vs G' hg' ((ok.uniq _ _ _ _ hy (ok.grow _ _ _ _ (hg.trans hg') hx)) ▸ hq)⟩
end

theorem HeadP.of {pb:List Nat} {fr:Nat→SV} {H:Nat→Option OB} {G:Hp} {fl:List (Nat × SV)} {hl:List (Nat × OB)} (π:List (Nat × Option Nat)) (h1:frV π ⟨fr,H,G⟩ fl) (h2:HV π ⟨fr,H,G⟩ hl) (h3:injB π hl = true:=by rfl) (h4:avoid π pb = true:=by rfl) (h5:fr POS = frOf fl POS:=by rfl):HeadP pb ⟨fr,H,G⟩ fl hl:=⟨⟨π,h1,h2,h3,h4⟩,h5⟩
theorem LoopP.of {pb:List Nat} {fr:Nat→SV} {H:Nat→Option OB} {G:Hp} {bd:Nat} {A:(I:Inv)→I.α→Hp→Prop} (I:Inv) (x0:I.α) (h1:HeadP pb ⟨fr,H,G⟩ (I.fr x0) (I.H x0)) (h3:I.ok x0 G)
  (hb:∀ x,frBd bd (I.fr x) = true∧HBd bd (I.H x) = true) (hr:∀ x G',Grow G G'→I.ok x G'→W (A I x G')):LoopP pb ⟨fr,H,G⟩ bd A:=⟨I,⟨x0,h1,h3⟩,hb,hr⟩
theorem RoundP.of {pb:List Nat} {I:Inv} {x:I.α} {fr:Nat→SV} {H:Nat→Option OB} {G:Hp} (x':I.α) (h1:HeadP pb ⟨fr,H,G⟩ (I.fr x') (I.H x')) (h3:I.ok x' G) (h4:I.m x' < I.m x):RoundP pb I x ⟨fr,H,G⟩:=⟨x',h1,h3,h4⟩
theorem RoundR.of {pb:List Nat} {I:RInv} {x:I.α} {fr:Nat→SV} {H:Nat→Option OB} {G:Hp} (x':I.α) (π:List (Nat × Option Nat)) (h2:HV π ⟨fr,H,G⟩ (I.H x')) (h3:I.ok x' G) (h4:I.k x' = I.k x + 1) (h5:injB π (I.H x') = true:=by rfl) (h6:avoid π pb = true:=by rfl) (h7:fr POS = I.pos x':=by rfl):RoundR pb I x ⟨fr,H,G⟩:=⟨x',⟨π,h2,h5,h6⟩,h3,h4,h7⟩
theorem RangeP.of {P:Program} {pb:List Nat} {fr:Nat→SV} {H:Nat→Option OB} {G:Hp} {bd np:Nat} {v:Value} {A:(I:RInv)→I.α→List Value→Hp→Prop} {B:(I:RInv)→I.α→Hp→Prop} {pre:Nat→List Value→Hp→List (List Value)→Prop} {post:Bool→Value→Prop} (Ys:List (List Value)) (I:RInv) (x0:I.α) (hs:SoundFn P v (.seq pre post))
  (hpre:∀ l,pre l [.func (.yield l) #[] #[]] G Ys) (hlen:∀ y∈Ys,y.length = np) (h0:I.k x0 = 0) (h1:HeadP pb ⟨fr,H,G⟩ I.fr (I.H x0)) (h2:I.ok x0 G) (hb:frBd bd I.fr = true∧∀ x,HBd bd (I.H x) = true) (hm:∀ x G G',Grow G G'→I.ok x G→I.ok x G')
  (hr:∀ x y G',Grow G G'→I.ok x G'→Ys[I.k x]? = some y→W (A I x y G')) (hd:∀ x G',Grow G G'→I.ok x G'→I.k x = Ys.length→W (B I x G')) (h8:I.pos x0 = frOf I.fr POS:=by rfl) (h9:∀ x,posOk (I.pos x) = true:=by intro _;rfl):RangeP P pb ⟨fr,H,G⟩ bd np v A B :=
 ⟨pre,post,Ys,I,hs,hpre,hlen,⟨x0,h0,h1,h2,h8,h9⟩,hb,hm,hr,hd⟩
theorem SoundFn.of {P:Program} {g:FuncId} {first cap:Array Value} {s:PSpec} (hb:HasBody P g) (hs:Sound P g (fun args=>first.toList++args++cap.toList) s):SoundFn P (.func (.func g) first cap) s:=⟨g,first,cap,rfl,hb,hs⟩

/-! ### Published slices -/

section
variable {α:Type} {k:Nat} {R:Hp→List Value→α→Prop} {G:Hp} {a:Option Addr} {n c:Nat} {l:List α}

theorem SlR.uniq {l':List α} (hR:∀ cs x y,R G cs x→R G cs y→x = y) (h:SlR k R G a n c l) (h':SlR k R G a n c l'):l = l':=by
 apply List.ext_getElem (by rw [h.len,h'.len])
 intro i h1 h2
 obtain ⟨cs,a1,a2,a3⟩:=h.at_ i h1
 obtain ⟨cs',b1,b2,b3⟩:=h'.at_ i h2
 have:=a2.eq b2 (by omega)
 subst this
 exact hR _ _ _ a3 b3
theorem SlR.cells (h:SlR k R G a n c l) {j:Nat} (hj:j < l.length):∃ cs,cs.length = k∧CellsAt G (ab a) (ao a + j * k) cs∧R G cs l[j]:=h.at_ j hj
end

theorem CellsAt.drop {G:Hp} {b off d n:Nat} {cs:List Value} (h:CellsAt G b off cs):CellsAt G b (off + d) ((cs.drop d).take n):=by
 intro j v hj
 rw [List.getElem?_take] at hj
 split at hj
 ·rw [List.getElem?_drop] at hj
  have:=h _ _ hj
  rwa [← Nat.add_assoc] at this
 ·cases hj
theorem RdP.of {G:Hp} {b off n:Nat} {A:List Value→Prop} (cs:List Value) (h1:cs.length = n) (h2:CellsAt G b off cs) (h3:W (A cs)):RdP G b off n A:=⟨cs,h1,h2,h3⟩
end Go.Pal

namespace Go.Pal
open Go.RowKit

abbrev I (n:Int):Value:=.int .i64 n
structure Rd (α:Type) where
 R:Hp→Value→α→Prop
 uniq:∀ {G v x y},R G v x→R G v y→x = y
 grow:∀ {G G' v x},Grow G G'→R G v x→R G' v x
structure El (α:Type) where
 k:Nat
 f:α→List Value
 inj:∀ {x y},f x = f y→x = y
 len:∀ x,(f x).length = k
 one:∀ x, ∀ v∈f x,v.oneCell' = true
def El.R {α:Type} (e:El α) (_:Hp) (cs:List Value) (x:α):Prop:=cs = e.f x
def SlV {α:Type} (e:El α) (G:Hp) (v:Value) (l:List α):Prop:=∃ a n c,v = .slice a n c∧SlR e.k e.R G a n c l∧n≤140737488355328
theorem SlV.uniq {α:Type} {e:El α} {G:Hp} {v:Value} {x y:List α} (h:SlV e G v x) (h':SlV e G v y):x = y:=by
 obtain ⟨a,n,c,rfl,h,_⟩:=h
 obtain ⟨a',n',c',e',h',_⟩:=h'
 cases e'
 exact h.uniq (fun cs x y h1 h2=>e.inj (h1.symm.trans h2)) h'
theorem SlV.grow {α:Type} {e:El α} {G G':Hp} {v:Value} {x:List α} (hg:Grow G G') (h:SlV e G v x):SlV e G' v x:=by
 obtain ⟨a,n,c,rfl,h,hn⟩:=h
 exact ⟨a,n,c,rfl,SlR.grow (G:=G) (G':=G') (fun _ _ h=>h) h hg,hn⟩
def slRd {α:Type} (e:El α):Rd (List α):=⟨SlV e,fun h h'=>h.uniq h',fun hg h=>h.grow hg⟩
def intRd:Rd Int:=⟨fun _ v x=>v = I x,fun {_ _ _ _} h h'=>by rw [h] at h';cases h';rfl,fun {_ _ _ _} _ h=>h⟩

def args1 {α:Type} (A:Rd α) (q:α→Prop):GRel α:=fun args G x=>∃ v,args = [v]∧A.R G v x∧q x
def args2 {α β:Type} (A:Rd α) (B:Rd β) (q:α→β→Prop):GRel (α × β):=fun args G x=>∃ v w,args = [v,w]∧A.R G v x.1∧B.R G w x.2∧q x.1 x.2
def args3 {α β γ:Type} (A:Rd α) (B:Rd β) (C:Rd γ) (q:α→β→γ→Prop):GRel (α × β × γ):=fun args G x=>∃ u v w,args = [u,v,w]∧A.R G u x.1∧B.R G v x.2.1∧C.R G w x.2.2∧q x.1 x.2.1 x.2.2
theorem ok1 {α:Type} (A:Rd α) (q:α→Prop):GOk (args1 A q) :=
 ⟨fun _ _ _ _ ⟨v,h,h1,_⟩ ⟨v',h',h1',_⟩=>by rw [h] at h';cases h';exact A.uniq h1 h1',fun _ _ _ _ hg ⟨v,h,h1,h2⟩=>⟨v,h,A.grow hg h1,h2⟩⟩
theorem ok2 {α β:Type} (A:Rd α) (B:Rd β) (q:α→β→Prop):GOk (args2 A B q) :=
 ⟨fun _ _ x y ⟨v,w,h,h1,h2,_⟩ ⟨v',w',h',h1',h2',_⟩=>by rw [h] at h';cases h';exact Prod.ext (A.uniq h1 h1') (B.uniq h2 h2'),fun _ _ _ _ hg ⟨v,w,h,h1,h2,h3⟩=>⟨v,w,h,A.grow hg h1,B.grow hg h2,h3⟩⟩
theorem ok3 {α β γ:Type} (A:Rd α) (B:Rd β) (C:Rd γ) (q:α→β→γ→Prop):GOk (args3 A B C q) :=
 ⟨fun _ _ x y ⟨u,v,w,h,h1,h2,h3,_⟩ ⟨u',v',w',h',h1',h2',h3',_⟩=>by rw [h] at h';cases h';exact Prod.ext (A.uniq h1 h1') (Prod.ext (B.uniq h2 h2') (C.uniq h3 h3')),fun _ _ _ _ hg ⟨u,v,w,h,h1,h2,h3,h4⟩=>⟨u,v,w,h,A.grow hg h1,B.grow hg h2,C.grow hg h3,h4⟩⟩

def lst:Value→List Value
 | .agg cs=>cs.toList
 | _=>[]
theorem SlR.el {α:Type} {e:El α} {G:Hp} {a:Option Addr} {n c:Nat} {l:List α} (h:SlR e.k e.R G a n c l) {i:Nat} (hi:i < l.length):CellsAt G (ab a) (ao a + i * e.k) (e.f l[i]):=by
 obtain ⟨cs,_,h2,h3⟩:=h.at_ i hi
 have h3:cs = e.f l[i]:=h3
 subst h3;exact h2
theorem RdP.at {G:Hp} {b off n:Nat} {A:List Value→Prop} {cs:List Value} (h2:CellsAt G b off cs) (h1:cs.length = n) (h3:W (A cs)):RdP G b off n A:=⟨cs,h1,h2,h3⟩
theorem RdP.sub {G:Hp} {b off d n:Nat} {A:List Value→Prop} {cs:List Value} (h2:CellsAt G b off cs) (h1:((cs.drop d).take n).length = n) (h3:W (A ((cs.drop d).take n))):RdP G b (off + d) n A:=⟨_,h1,h2.drop,h3⟩
theorem RdP.sub2 {G:Hp} {b off d e n:Nat} {A:List Value→Prop} {cs:List Value} (h2:CellsAt G b off cs) (h1:((cs.drop (d + e)).take n).length = n) (h3:W (A ((cs.drop (d + e)).take n))):RdP G b (off + d + e) n A:=⟨_,h1,by rw [Nat.add_assoc];exact h2.drop,h3⟩
theorem RdP.sub3 {G:Hp} {b off d e f n:Nat} {A:List Value→Prop} {cs:List Value} (h2:CellsAt G b off cs) (h1:((cs.drop (d + e + f)).take n).length = n) (h3:W (A ((cs.drop (d + e + f)).take n))):RdP G b (off + d + e + f) n A:=⟨_,h1,by rw [Nat.add_assoc,Nat.add_assoc, ← Nat.add_assoc d];exact h2.drop,h3⟩
theorem EqP.at {l:List Value} {n:Nat} {A:List Value→Prop} (h1:l.length = n) (h3:W (A l)):EqP l n A:=⟨l,rfl,h1,h3⟩

theorem SlR.all {α:Type} {e:El α} {G:Hp} {a:Option Addr} {n c:Nat} {l:List α} (h:SlR e.k e.R G a n c l):CellsAt G (ab a) (ao a) (l.map e.f).flatten∧(l.map e.f).flatten.length = n * e.k∧∀ v∈(l.map e.f).flatten,v.oneCell' = true:=by
 have hl:∀ l:List α,(l.map e.f).flatten.length = l.length * e.k:=by
  intro l
  induction l with
  | nil=>simp
  | cons x r ih=>simp only [List.map_cons,List.flatten_cons,List.length_append,ih,e.len,List.length_cons,Nat.add_mul,Nat.one_mul];omega
 have hat:∀ (l:List α) (j:Nat) (v:Value),(l.map e.f).flatten[j]? = Option.some v→∃ i, ∃ h:i < l.length, ∃ d,j = i * e.k + d∧(e.f l[i])[d]? = Option.some v:=by
  intro l
  induction l with
  | nil=>intro j v hj;simp at hj
  | cons x r ih =>
   intro j v hj
   simp only [List.map_cons,List.flatten_cons] at hj
   by_cases hlt:j < (e.f x).length
   ·rw [List.getElem?_append_left hlt] at hj
    exact ⟨0,by simp,j,by simp,hj⟩
   ·rw [List.getElem?_append_right (by omega)] at hj
    obtain ⟨i,h,d,h1,h2⟩:=ih _ _ hj
    rw [e.len] at h1 hlt
    exact ⟨i + 1,by simpa using h,d,by rw [Nat.add_mul];omega,by simpa using h2⟩
 refine ⟨fun j v hj=>?_,by rw [hl,h.len],fun v hv=>?_⟩
 ·obtain ⟨i,hi,d,rfl,h2⟩:=hat l j v hj
  have:=h.el hi d v h2
  rwa [Nat.add_assoc] at this
 ·obtain ⟨x,hx,hv⟩:=List.mem_flatten.1 hv
  obtain ⟨y,_,rfl⟩:=List.mem_map.1 hx
  exact e.one y v hv
theorem PubRow.sl {α:Type} {e:El α} {G:Hp} {a:Option Addr} {n c:Nat} {l:List α} {vs:List Value} (h:PubRow G a n c vs) (hv:vs = (l.map e.f).flatten) (hn:l.length = n):SlR e.k e.R G a n c l:=by
 refine ⟨hn,h.cap,h.some,fun i hi=>⟨e.f l[i],e.len _, ?_,rfl⟩⟩
 intro j v hj
 have hlt:j < e.k:=by
  have:=(List.getElem?_eq_some_iff.1 hj).1
  rwa [e.len] at this
 have key:∀ (l:List α) (i:Nat) (hi:i < l.length),(l.map e.f).flatten[i * e.k + j]? = (e.f l[i])[j]?:=by
  intro l
  induction l with
  | nil=>intro i hi;simp at hi
  | cons x r ih =>
   intro i hi
   cases i with
   | zero=>simp only [List.map_cons,List.flatten_cons,Nat.zero_mul,Nat.zero_add,List.getElem_cons_zero];rw [List.getElem?_append_left (by rw [e.len];exact hlt)]
   | succ i =>
    simp only [List.map_cons,List.flatten_cons,List.getElem_cons_succ]
    rw [List.getElem?_append_right (by rw [e.len,Nat.add_mul];omega),e.len,show (i + 1) * e.k + j - e.k = i * e.k + j by rw [Nat.add_mul];omega]
    exact ih i (by simpa using hi)
 have:=h.cells (i * e.k + j) v (by rw [hv,key l i hi];exact hj)
 rwa [← Nat.add_assoc] at this
theorem PubRow.slV {α:Type} {e:El α} {G:Hp} {a:Option Addr} {n c:Nat} {l:List α} {vs:List Value} (h:PubRow G a n c vs) (hv:vs = (l.map e.f).flatten) (hn:l.length = n) (hb:n≤140737488355328):SlV e G (.slice a n c) l:=⟨a,n,c,rfl,h.sl hv hn,hb⟩
structure Row {α:Type} (e:El α) (l:List α) (n:Nat) (vs:List Value):Prop where
 n:n = l.length
 vs:vs = (l.map e.f).flatten
theorem Row.nil {α:Type} {e:El α}:Row e [] 0 []:=⟨rfl,rfl⟩
theorem Row.snoc {α:Type} {e:El α} {l:List α} {n:Nat} {vs us:List Value} (h:Row e l n vs) (x:α) (hu:us = e.f x:=by rfl):Row e (l++[x]) (n + 1) (vs++us):=by
 subst hu;obtain ⟨rfl,rfl⟩:=h;exact ⟨by simp,by simp⟩
theorem Row.len {α:Type} {e:El α} {l:List α} {n:Nat} {vs:List Value} (h:Row e l n vs):vs.length = n * e.k:=by
 obtain ⟨rfl,rfl⟩:=h
 induction l with
 | nil=>simp
 | cons x r ih=>simp only [List.map_cons,List.flatten_cons,List.length_append,ih,e.len,List.length_cons,Nat.add_mul,Nat.one_mul];omega
theorem Row.at {α:Type} {e:El α} {l:List α} {n:Nat} {vs:List Value} (h:Row e l n vs) {i:Nat} (hi:i < l.length):(vs.drop (i * e.k)).take e.k = e.f l[i]:=by
 obtain ⟨rfl,rfl⟩:=h
 induction l generalizing i with
 | nil=>simp at hi
 | cons x r ih =>
  cases i with
  | zero=>simp only [List.map_cons,List.flatten_cons,Nat.zero_mul,List.drop_zero,List.getElem_cons_zero];rw [List.take_append_of_le_length (by rw [e.len];exact Nat.le_refl _),List.take_of_length_le (by rw [e.len];exact Nat.le_refl _)]
  | succ i =>
   simp only [List.map_cons,List.flatten_cons,List.getElem_cons_succ]
   rw [List.drop_append,List.drop_of_length_le (by rw [e.len,Nat.add_mul];omega),List.nil_append,e.len,show (i + 1) * e.k - e.k = i * e.k by rw [Nat.add_mul];omega]
   exact ih (by simpa using hi)
theorem EqP.row {α:Type} {e:El α} {l:List α} {n:Nat} {vs:List Value} (h:Row e l n vs) {i:Nat} (hi:i < l.length) {A:List Value→Prop} (k:W (A (e.f l[i]))):EqP ((vs.drop (i * e.k)).take e.k) e.k A:=⟨_,h.at hi,e.len _,k⟩
theorem seg_get {α:Type} {Y Ys:List α} {k j:Nat} (h:(Y.drop k).take Ys.length = Ys) (hj:j < Ys.length):Y[k + j]? = Ys[j]?:=by
 have e:(Y.drop k)[j]? = Ys[j]?:=by
  rw [← h] at hj ⊢
  rw [List.getElem?_take,if_pos]
  rw [h] at hj;exact hj
 rw [← e,List.getElem?_drop]
theorem Row.pub {α:Type} {e:El α} {G:Hp} {a:Option Addr} {n c:Nat} {l:List α} {vs:List Value} (h:Row e l n vs) (hp:PubRow G a n c vs) (hb:n≤140737488355328):SlV e G (.slice a n c) l:=hp.slV h.vs h.n.symm hb
theorem SlV.nil {α:Type} {e:El α} {G:Hp}:SlV e G (.slice none 0 0) []:=⟨none,0,0,rfl,⟨rfl,Nat.le_refl _,fun h=>absurd rfl h,fun i hi=>by simp at hi⟩,Nat.zero_le _⟩
theorem pur_sl_nil {P:Program} {t e:TypeId} (h:P.underlying t = some (.slice e)) (a:Option Addr) (n c n' c':Nat):∀ w,((POp.bin .eql t).sem [.slice a n c, .slice none n' c']).run P w = .ok (.bool a.isNone) w:=fun w=>by
 have e1:(POp.bin .eql t).sem [.slice a n c, .slice none n' c'] = (do eqGuard .eql t (.tmp 0) (.tmp 0) (.slice a n c) (.slice none n' c');binOp .eql t (.slice a n c) (.slice none n' c')):=rfl
 have e2:eqGuard .eql t (.tmp 0) (.tmp 0) (.slice a n c) (.slice none n' c') = pure ():=rfl
 rw [e1,e2]
 simp only [pure_bind]
 simp only [binOp]
 simp [Op.equal,Op.maxDepth,Lib.run_equalIn_slice_nil w 9999 t e a n c n' c' h]
theorem PurP.of {P:Program} {s:Sem Value} {A:Value→Prop} (v:Value) (h:∀ w,s.run P w = .ok v w) (k:W (A v)):PurP P s A:=⟨v,h,k⟩
theorem Row.of_all {α:Type} {e:El α} (l:List α) {n:Nat} (h:l.length = n):Row e l n (l.map e.f).flatten:=⟨h.symm,rfl⟩
/-! short names,for the many steps -/
theorem ob {φ A:Prop} (h:φ) (k:A):OblP φ A:=⟨h,⟨k⟩⟩
theorem ble {a b:Nat} (h:Nat.ble a b = true):a≤b:=Nat.le_of_ble_eq_true h
theorem ra {G:Hp} {b off n:Nat} {A:List Value→Prop} {cs:List Value} (h2:CellsAt G b off cs) (h1:cs.length = n) (h3:A cs):RdP G b off n A:=RdP.at h2 h1 (W.mk h3)
theorem rb {G:Hp} {b off d n:Nat} {A:List Value→Prop} {cs:List Value} (h2:CellsAt G b off cs) (h1:((cs.drop d).take n).length = n) (h3:A ((cs.drop d).take n)):RdP G b (off + d) n A:=RdP.sub h2 h1 (W.mk h3)
theorem rc {G:Hp} {b off d e n:Nat} {A:List Value→Prop} {cs:List Value} (h2:CellsAt G b off cs) (h1:((cs.drop (d + e)).take n).length = n) (h3:A ((cs.drop (d + e)).take n)):RdP G b (off + d + e) n A:=RdP.sub2 h2 h1 (W.mk h3)
theorem rd {G:Hp} {b off d e f n:Nat} {A:List Value→Prop} {cs:List Value} (h2:CellsAt G b off cs) (h1:((cs.drop (d + e + f)).take n).length = n) (h3:A ((cs.drop (d + e + f)).take n)):RdP G b (off + d + e + f) n A:=RdP.sub3 h2 h1 (W.mk h3)
end Go.Pal

namespace Go.Proofs.Ytefnikpoimaiiaa
open Go.Pal
structure Mo where
 f:Int
 h:Int
structure Sc where
 persons:Int
 least:Int
 most:Int
 short:Int
 ms:List Mo
structure Pt where
 h:Int
 v:Int
deriving DecidableEq
structure St4 where
 h:Int
 t:Int
 s:Int
 o:Bool
deriving DecidableEq
def bitF (p:Int):Int:=if p = -1 then 32768 else 2 ^ p.toNat
def hasB (set p:Int):Bool:=decide ((set.toNat &&& (bitF p).toNat)≠0)
def inK (set:Int):Nat→List Int
 | 0=>[]
 | k + 1=>if hasB set ((k:Int) - 1) then inK set k++[(k:Int) - 1] else inK set k
def inL (s:Sc) (set:Int):List Int:=inK set (s.persons + 1).toNat
def endF (s:Sc) (x:St4) (p:Pt) (t:Int):St4:=⟨p.h,t,if p.v≠-1∧p.v≠p.h then x.s + 1 else 0,decide (p.v = p.h)⟩
def okF (s:Sc) (y:St4):Bool:=decide (y.t≤s.most) && decide (y.s≤s.short)
def stepF (s:Sc) (x:St4) (p:Pt):St4 × Bool :=
 if p.h = -1 then (⟨-1,0,0,false⟩,(decide (x.h < 0) || (decide (s.least≤x.t) && x.o)) && decide (p.v = -1))
 else if p.h = x.h then (endF s x p (x.t + 1),okF s (endF s x p (x.t + 1)))
 else if p.v≠p.h∨(0≤x.h∧(x.t < s.least∨x.o = false)) then (⟨0,0,0,false⟩,false)
 else (endF s x p 1,okF s (endF s x p 1))
def withF (s:Sc) (x:St4) (h:Int) (vs:List Int):List (Pt × St4):=vs.filterMap fun v=>if (stepF s x ⟨h,v⟩).2 then some (⟨h,v⟩,(stepF s x ⟨h,v⟩).1) else none
def partsF (s:Sc) (x:St4) (m:Mo):List (Pt × St4):=(inL s m.f).flatMap fun h=>withF s x h (inL s m.h)
abbrev begin4:St4:=⟨-2,0,0,false⟩
def Rs (s:Sc):Nat→St4→Prop
 | 0,y=>y = begin4
 | i + 1,y=>∃ x,Rs s i x∧∃ m,s.ms[i]? = some m∧∃ p,(p,y)∈partsF s x m
def Gd (s:Sc):Nat→Nat→St4→Prop
 | 0,i,y=>Rs s i y
 | d + 1,i,y=>Rs s i y∧∃ m,s.ms[i]? = some m∧∃ p y',(p,y')∈partsF s y m∧Gd s d (i + 1) y'
theorem Gd.rs {s:Sc}:∀ {d i:Nat} {y:St4},Gd s d i y→Rs s i y
 | 0,_,_,h=>h
 | _ + 1,_,_,h=>h.1
theorem gd_ex {s:Sc}:∀ (d i:Nat),i + d≤s.ms.length→(∃ y,Rs s (i + d) y)→∃ y,Gd s d i y
 | 0,i,_,⟨y,h⟩=>⟨y,h⟩
 | d + 1,i,hl,h=>by
  obtain ⟨y,hy⟩:=gd_ex (s:=s) d (i + 1) (by omega) (by rw [show i + 1 + d = i + (d + 1) by omega];exact h)
  obtain ⟨x,hx,m,hm,p,hp⟩:=hy.rs
  exact ⟨x,hx,m,hm,p,y,hp,hy⟩
theorem gd_begin {s:Sc} (h:∃ y,Rs s s.ms.length y):Gd s s.ms.length 0 begin4:=by
 obtain ⟨y,hy⟩:=gd_ex (s:=s) s.ms.length 0 (by omega) (by rw [Nat.zero_add];exact h)
 have:y = begin4:=hy.rs
 rw [← this];exact hy
theorem gd_next {s:Sc} {i:Nat} {y:St4} (hi:i < s.ms.length) (h:Gd s (s.ms.length - i) i y):∃ m,s.ms[i]? = some m∧∃ p y',(p,y')∈partsF s y m∧Gd s (s.ms.length - (i + 1)) (i + 1) y':=by
 obtain ⟨d,hd⟩:∃ d,s.ms.length - i = d + 1:=⟨s.ms.length - i - 1,by omega⟩
 rw [hd] at h
 obtain ⟨_,m,hm,p,y',h1,h2⟩:=h
 exact ⟨m,hm,p,y',h1,by rw [show s.ms.length - (i + 1) = d by omega];exact h2⟩
theorem inK_mem {set:Int}:∀ {k:Nat} {p:Int},p∈inK set k→-1≤p∧p < (k:Int) - 1 + 0∧hasB set p = true
 | 0,p,h=>by simp [inK] at h
 | k + 1,p,h=>by
  simp only [inK] at h
  split at h
  ·rename_i hb
   rcases List.mem_append.1 h with h | h
   ·obtain ⟨h1,h2,h3⟩:=inK_mem h
    exact ⟨h1,by omega,h3⟩
   ·have:p = (k:Int) - 1:=by simpa using h
    subst this
    exact ⟨by omega,by omega,hb⟩
  ·obtain ⟨h1,h2,h3⟩:=inK_mem h
   exact ⟨h1,by omega,h3⟩
structure Bd (s:Sc) (y:St4):Prop where
 h:-2≤y.h∧y.h < s.persons
 t:0≤y.t∧y.t≤20
 s:0≤y.s∧y.s≤20
structure ScOk (s:Sc):Prop where
 p:1≤s.persons∧s.persons≤12
 m:1≤s.most∧s.most≤20
 l:1≤s.least∧s.least≤s.most
 sh:0≤s.short∧s.short≤20
 n:s.ms.length≤40
theorem parts_mem {s:Sc} {x:St4} {m:Mo} {p:Pt} {y:St4} (h:(p,y)∈partsF s x m):p.h∈inL s m.f∧p.v∈inL s m.h∧(stepF s x p).2 = true∧y = (stepF s x p).1:=by
 simp only [partsF,List.mem_flatMap,withF,List.mem_filterMap] at h
 obtain ⟨a,ha,v,hv,e⟩:=h
 split at e
 ·rename_i hs
  cases e
  exact ⟨ha,hv,hs,rfl⟩
 ·cases e
theorem bd_begin {s:Sc} (h:ScOk s):Bd s begin4:=⟨⟨by decide,by have:=h.p;show (-2:Int) < _;omega⟩,⟨by decide,by decide⟩,⟨by decide,by decide⟩⟩
theorem bd_parts {s:Sc} (hs:ScOk s) {x:St4} (hx:Bd s x) {m:Mo} {p:Pt} {y:St4} (h:(p,y)∈partsF s x m):Bd s y:=by
 obtain ⟨h1,h2,h3,rfl⟩:=parts_mem h
 obtain ⟨q1,q2,_⟩:=inK_mem h1
 have hp:=hs.p
 have hm:=hs.m
 have hsh:=hs.sh
 have hxs:=hx.s
 have hxt:=hx.t
 have q3:p.h < s.persons:=by
  have:(((s.persons + 1).toNat:Nat):Int) = s.persons + 1:=by omega
  omega
 unfold stepF at h3 ⊢
 split
 ·exact ⟨⟨by show (-2:Int)≤-1;decide,by show (-1:Int) < _;omega⟩,⟨Int.le_refl 0,by show (0:Int)≤20;decide⟩,⟨Int.le_refl 0,by show (0:Int)≤20;decide⟩⟩
 rename_i c1
 rw [if_neg c1] at h3
 have key:∀ t,0≤t→okF s (endF s x p t) = true→Bd s (endF s x p t):=fun t ht ho=>by
  simp only [okF,Bool.and_eq_true,decide_eq_true_eq] at ho
  refine ⟨⟨by show -2≤p.h;omega,q3⟩,⟨ht,by have:=ho.1;omega⟩,⟨?_,by have:=ho.2;omega⟩⟩
  show 0≤(if p.v≠-1∧p.v≠p.h then x.s + 1 else 0)
  split<;>omega
 split
 ·rename_i c2
  rw [if_pos c2] at h3
  exact key _ (by omega) h3
 rename_i c2
 rw [if_neg c2] at h3
 split
 ·rename_i c3
  rw [if_pos c3] at h3;cases h3
 ·rename_i c3
  rw [if_neg c3] at h3
  exact key _ (by omega) h3
theorem bd_rs {s:Sc} (hs:ScOk s):∀ {i:Nat} {y:St4},Rs s i y→Bd s y
 | 0,y,h=>by
  have:y = begin4:=h
  rw [this];exact bd_begin hs
 | i + 1,y,⟨x,hx,m,_,p,hp⟩=>bd_parts hs (bd_rs hs hx) hp
theorem has_nobody {p:Int} (h1:-1≤p) (h2:p < 12) (h:hasB 32768 p = true):p = -1:=by
 have:∀ k:Nat,k < 12→hasB 32768 (k:Int) = false:=by decide
 by_cases e:p = -1
 ·exact e
 ·have:=this p.toNat (by omega)
  rw [show ((p.toNat:Nat):Int) = p by omega] at this
  rw [this] at h;cases h
theorem parts_nobody {s:Sc} (hs:ScOk s) {x:St4} {p:Pt} {y:St4} (h:(p,y)∈partsF s x ⟨32768,32768⟩):p = ⟨-1, -1⟩:=by
 obtain ⟨h1,h2,_,_⟩:=parts_mem h
 have hp:=hs.p
 have hc:(((s.persons + 1).toNat:Nat):Int) = s.persons + 1:=by omega
 obtain ⟨a1,a2,a3⟩:=inK_mem h1
 obtain ⟨b1,b2,b3⟩:=inK_mem h2
 have e1:=has_nobody a1 (by omega) a3
 have e2:=has_nobody b1 (by omega) b3
 cases p;simp_all
end Go.Proofs.Ytefnikpoimaiiaa

namespace Go.Pal
open Go

theorem keyFind_of {P:Program} {k:TypeId} (L:WideMaps.KeyLaw P k) {x:Value} {lx:Lit} (hx:keyOf P k x = some lx) (hs:Instr.sameBits 10000 x x = true) {es:Array MapEntry} (hall:∀ e∈es.toList, ∃ l,keyOf P k e.key = some l) (hnd:(es.toList.map (·.key)).Nodup) :
  (KeyFind P k x es none∧∀ e∈es.toList,e.key≠x)∨∃ (j:Nat) (e:MapEntry),KeyFind P k x es (some j)∧es[j]? = some e∧e.key = x:=by
 by_cases hex:∃ e∈es.toList,e.key = x
 ·right
  obtain ⟨e,he,hk⟩:=hex
  obtain ⟨j,hj,hje⟩:=List.getElem_of_mem he
  have hj':es.toList[j]? = some e:=by rw [List.getElem?_eq_getElem hj,hje]
  refine ⟨j,e,⟨fun W em=>L.check W em hx,fun W=>?_,fun i hi=>?_⟩,by simpa using hj',hk⟩
  ·rcases L.find W hx es.toList hall with ⟨_,h2⟩ | ⟨i,e',h1,h2,h3⟩
   ·exact absurd hk (h2 e he)
   ·have k1:(es.toList.map (·.key))[i]? = some x:=by simp only [List.getElem?_map,h2,Option.map_some,h3]
    have k2:(es.toList.map (·.key))[j]? = some x:=by simp only [List.getElem?_map,hj',Option.map_some,hk]
    have l1:=(List.getElem?_eq_some_iff.1 k1).1
    have:i = j:=(List.getElem?_inj l1 hnd).1 (k1.trans k2.symm)
    subst this
    rw [h1]
    have h2':es[i]? = some e':=by simpa using h2
    simp [mapAt,h2']
  ·cases hi
   have hj'':es[j]? = some e:=by simpa using hj'
   simp only [hj'',Option.map_some,Option.getD_some,hk];exact hs
 ·left
  have hno:∀ e∈es.toList,e.key≠x:=fun e he hk=>hex ⟨e,he,hk⟩
  refine ⟨⟨fun W em=>L.check W em hx,fun W=>?_,fun i hi=>by cases hi⟩,hno⟩
  rcases L.find W hx es.toList hall with ⟨h1,_⟩ | ⟨i,e',h1,h2,h3⟩
  ·exact h1
  ·exact absurd h3 (hno e' (List.mem_of_getElem? h2))
end Go.Pal

namespace Go.Pal
open Go.RowKit

section
variable {P:Program}
end
end Go.Pal

namespace Go.Pal
open Go

theorem eq2_run {P : Program} {t e : TypeId} (hu : (match P.underlying t with | some (.struct _) => true | _ => false) = true) (hf : (P.fieldsOf t).toList.map (fun f => (f.type, f.offset)) = [(e, 0), (e, 1)]) (hn : (P.fieldsOf t).toList.all (fun f => f.name != "_") = true) (he : P.underlying e = some (.int .i64)) (hz : szT P e = some 1)
  (hs:P.stoodInHeld t = false) (w:World) (a b c d:Int):(Op.equalIn 10000 t (.agg #[I a,I b]) (.agg #[I c,I d])).run P w = .ok (decide (a = c∧b = d)) w:=by
 have hS:P.underlying t = some (.struct (P.fieldsOf t)):=by
  unfold Program.fieldsOf
  cases hx:P.underlying t with
  | none=>rw [hx] at hu;cases hu
  | some u=>cases u<;>first | rfl | (rw [hx] at hu;cases hu)
 rw [show (10000:Nat) = 9999 + 1 from rfl,run_equalIn_struct w 9999 t _ _ hS hs]
 generalize (P.fieldsOf t).toList = fs at hf hn
 have hag:aggT P e = some false:=by simp [aggT,he]
 have hsz:=run_sizeOf' (P:=P) (W:=w) (t:=e) (n:=1) hz
 have hgg:=run_isAgg' (P:=P) (W:=w) (t:=e) (g:=false) hag
 obtain ⟨f1,f2,rfl⟩:∃ f1 f2,fs = [f1,f2]:=by
  have hl:=congrArg List.length hf
  simp only [List.length_map,List.length_cons,List.length_nil] at hl
  cases fs with
  | nil=>cases hl
  | cons f1 fs =>
   cases fs with
   | nil=>cases hl
   | cons f2 fs =>
    cases fs with
    | nil=>exact ⟨f1,f2,rfl⟩
    | cons f3 fs=>simp at hl
 ·
  simp only [List.map_cons,List.map_nil,List.cons.injEq,Prod.mk.injEq,and_true] at hf
  obtain ⟨⟨t1,o1⟩,t2,o2⟩:=hf
  simp only [List.all_cons,List.all_nil,Bool.and_true,Bool.and_eq_true,bne_iff_ne,ne_eq] at hn
  have he1:=fun a b=>run_equalIn_int (P:=P) w 9998 e .i64 .i64 a b he
  simp only [Op.eqFields,t1,o1,t2,o2,hn.1,hn.2,ne_eq,not_false_eq_true,if_true]
  simp [part,hsz,hgg,he1,Result.andThen]
  by_cases h1:a = c
  ·subst h1
   by_cases h2:b = d
   ·subst h2;simp [he1]
   ·simp [he1,h2]
  ·simp [h1]
theorem pur_eq2 {P : Program} {t e : TypeId} (hu : (match P.underlying t with | some (.struct _) => true | _ => false) = true) (hf : (P.fieldsOf t).toList.map (fun f => (f.type, f.offset)) = [(e, 0), (e, 1)]) (hn : (P.fieldsOf t).toList.all (fun f => f.name != "_") = true) (he : P.underlying e = some (.int .i64)) (hz : szT P e = some 1)
  (hs:P.stoodInHeld t = false) (hg:P.eqGuardType P.depth t = false) (a b c d:Int):∀ w,((POp.bin .eql t).sem [.agg #[I a,I b], .agg #[I c,I d]]).run P w = .ok (.bool (decide (a = c∧b = d))) w:=fun w=>by
 have e1:(POp.bin .eql t).sem [.agg #[I a,I b], .agg #[I c,I d]] = (do eqGuard .eql t (.tmp 0) (.tmp 0) (.agg #[I a,I b]) (.agg #[I c,I d]);binOp .eql t (.agg #[I a,I b]) (.agg #[I c,I d])):=rfl
 rw [e1]
 simp [run_eqGuard_agg w .eql t _ _ _ _ hg,run_eql_struct,eq2_run hu hf hn he hz hs w,Result.andThen]
theorem pur_ne2 {P : Program} {t e : TypeId} (hu : (match P.underlying t with | some (.struct _) => true | _ => false) = true) (hf : (P.fieldsOf t).toList.map (fun f => (f.type, f.offset)) = [(e, 0), (e, 1)]) (hn : (P.fieldsOf t).toList.all (fun f => f.name != "_") = true) (he : P.underlying e = some (.int .i64)) (hz : szT P e = some 1)
  (hs:P.stoodInHeld t = false) (hg:P.eqGuardType P.depth t = false) (a b c d:Int):∀ w,((POp.bin .neq t).sem [.agg #[I a,I b], .agg #[I c,I d]]).run P w = .ok (.bool (!decide (a = c∧b = d))) w:=fun w=>by
 have e1:(POp.bin .neq t).sem [.agg #[I a,I b], .agg #[I c,I d]] = (do eqGuard .neq t (.tmp 0) (.tmp 0) (.agg #[I a,I b]) (.agg #[I c,I d]);binOp .neq t (.agg #[I a,I b]) (.agg #[I c,I d])):=rfl
 rw [e1]
 simp [run_eqGuard_agg w .neq t _ _ _ _ hg,run_neq_struct,eq2_run hu hf hn he hz hs w,Result.andThen]
end Go.Pal

namespace Go.Pal
open Go
end Go.Pal

namespace Go.Pal
open Go.ChangeShapes Go.WideShapes Go.ChangeAt Go.RowKit Go.Joins Go.Deep

abbrev hpOf (W:World):Hp:=fun b=>W.heap[b]?
theorem cell_rd {W:World} {b off:Nat} {v:Value} (h:W.cell? ⟨b,off,none⟩ = some v):rd1 (hpOf W) b off = some v:=by
 unfold World.cell? at h
 unfold rd1 hpOf
 cases hg:W.heap[b]? with
 | none=>simp [hg] at h
 | some o=>cases o<;>simp_all
theorem addr_add (b off k:Nat):(⟨b,off,none⟩:Addr).add k = ⟨b,off + k,none⟩:=by
 unfold Addr.add;split
 ·rename_i h;rw [h];rfl
 ·rfl
structure Cd (α:Type) where
 k:Nat
 R:Hp→List Value→α→Prop
 len:∀ {G cs x},R G cs x→cs.length = k
def cdInt (κ:IntKind):Cd Int:=⟨1,fun _ cs x=>cs = [.int κ x]∧inR κ x,fun h=>by rw [h.1];rfl⟩
def cdBool:Cd Bool:=⟨1,fun _ cs x=>cs = [.bool x],fun h=>by rw [h];rfl⟩
def cdUnit:Cd Unit:=⟨0,fun _ cs _=>cs = [],fun h=>by rw [h];rfl⟩
def cdPair {α β:Type} (A:Cd α) (B:Cd β):Cd (α × β):=⟨A.k + B.k,fun G cs x=>∃ c d,cs = c++d∧A.R G c x.1∧B.R G d x.2,fun ⟨c,d,h,h1,h2⟩=>by rw [h,List.length_append,A.len h1,B.len h2]⟩
def cdSl {α:Type} (A:Cd α):Cd (List α):=⟨1,fun G cs l=>∃ a n c,cs = [.slice a n c]∧SlR A.k A.R G a n c l∧n≤maxLen,fun ⟨_,_,_,h,_⟩=>by rw [h];rfl⟩
def Opens {α:Type} (P:Program) (t:TypeId) (A:Cd α):Prop :=
 P.cellsOf t = A.k∧∀ {H:Type} {enc:TypeId × Value→H} {W:World} {base:Nat} {spare:Nat→Bool} {held:Bool} {fuel:Nat} {cs:List Value} {x:DataW H × List MemPlace},
  DataW.trod enc P W base spare held fuel t cs = some x→∃ y,A.R (hpOf W) cs y
def OpensF {α:Type} (P:Program) (A:Cd α) (fs:List (TypeId × Nat)) (off:Nat):Prop :=
 ∀ {H:Type} {enc:TypeId × Value→H} {W:World} {base:Nat} {spare:Nat→Bool} {held:Bool} {n:Nat} {cs:List Value},
  cs.length = A.k + off→(∀ (i:Nat) (f:TypeId × Nat),fs[i]? = some f→∃ y,DataW.trod enc P W base spare held n f.1 ((cs.drop f.2).take (P.cellsOf f.1)) = some y)→∃ y,A.R (hpOf W) (cs.drop off) y

section
variable {P:Program}
theorem wf_inR {κ:IntKind} {n:Int} (h:(Lit.int κ n).wf = true):inR κ n:=by
 cases κ<;>simp [Lit.wf,IntKind.min,IntKind.max,IntKind.signed,IntKind.bits] at h<;>simp only [inR]<;>omega
theorem Opens.int {t:TypeId} {κ:IntKind} (ht:P.underlying t = some (.int κ)) (hk:P.cellsOf t = 1:=by kernel_rfl):Opens P t (cdInt κ):=⟨hk,fun h=>by
 obtain ⟨n,h1,_,h2⟩:=DataW.trod_int ht h
 exact ⟨n,h1,wf_inR h2⟩⟩
theorem Opens.bool {t:TypeId} (ht:P.underlying t = some .bool) (hk:P.cellsOf t = 1:=by kernel_rfl):Opens P t cdBool:=⟨hk,fun h=>by
 obtain ⟨n,h1,_⟩:=DataW.trod_bool ht h
 exact ⟨n,h1⟩⟩
theorem OpensF.nil {off:Nat}:OpensF P cdUnit [] off:=fun hl _=>⟨(),by
 have hl:_ = 0 + off:=hl
 show List.drop _ _ = []
 rw [List.drop_of_length_le (by omega)]⟩
theorem OpensF.cons {α β:Type} {A:Cd α} {B:Cd β} {t:TypeId} {fs:List (TypeId × Nat)} {off:Nat} (hA:Opens P t A) (hB:OpensF P B fs (off + A.k)):OpensF P (cdPair A B) ((t,off) :: fs) off:=fun {H enc W base spare held n cs} hl hf=>by
 have hl:cs.length = A.k + B.k + off:=hl
 obtain ⟨y0,h0⟩:=hf 0 (t,off) rfl
 obtain ⟨x,hx⟩:=hA.2 h0
 obtain ⟨y,hy⟩:=hB (cs:=cs) (by omega) (fun i f hi=>hf (i + 1) f (by simpa using hi))
 rw [hA.1] at hx
 exact ⟨(x,y),_,_,by rw [← List.drop_drop,List.take_append_drop],hx,hy⟩
def fieldsT (P:Program) (t:TypeId):Option (List (TypeId × Nat)):=match P.underlying t with
 | some (.struct fs)=>some (fs.toList.map fun f=>(f.type,f.offset))
 | _=>none
theorem Opens.struct {α:Type} {t:TypeId} {A:Cd α} {fs:List (TypeId × Nat)} (hf:fieldsT P t = some fs) (hk:P.cellsOf t = A.k) (hA:OpensF P A fs 0):Opens P t A:=⟨hk,fun {H enc W base spare held fuel cs x} h=>by
 unfold fieldsT at hf
 split at hf
 ·rename_i fs' hu
  cases hf
  obtain ⟨xs,n,_,_,hl,hlen,hat⟩:=DataW.trod_struct hu h
  obtain ⟨y,hy⟩:=hA (cs:=cs) (n:=n) (enc:=enc) (W:=W) (base:=base) (spare:=spare) (held:=held) (by rw [hl,hk];rfl) (fun i f hi=>by
   rw [List.getElem?_map] at hi
   obtain ⟨g,hg,rfl⟩:=Option.map_eq_some_iff.1 hi
   have hg':fs'[i]? = some g:=by simpa using hg
   have hlt:i < fs'.size:=(Array.getElem?_eq_some_iff.1 hg').1
   exact ⟨_,(hat i g hg').trans (List.getElem?_eq_getElem (by omega))⟩)
  exact ⟨y,by simpa using hy⟩
 ·cases hf⟩
theorem Opens.slice {α:Type} {t e:TypeId} {A:Cd α} (ht:P.underlying t = some (.slice e)) (hA:Opens P e A) (h1:1≤A.k) (hk:P.cellsOf t = 1:=by kernel_rfl):Opens P t (cdSl A):=⟨hk,fun {H enc W base spare held fuel cs x} h=>by
 rcases open_slice ht h with h0 | ⟨a,len,cap,m,n,D,Pl,hcs,hb,hl,hm,hmm,hx,hi⟩
 ·exact ⟨[],none,0,0,h0.1,⟨rfl,Nat.le_refl _,fun h=>absurd rfl h,fun i hi=>by simp at hi⟩,Nat.zero_le _⟩
 ·have key:∀ i,i < len→∃ (y:α) (cs:List Value),cs.length = A.k∧(∀ j,j < A.k→W.cell? (a.add (i * A.k + j)) = cs[j]?)∧A.R (hpOf W) cs y:=fun i hil=>by
   have him:i < m:=by rw [hmm];split<;>omega
   obtain ⟨cs',hc,ht'⟩:=hi i him
   rw [hA.1] at hc
   obtain ⟨_,hcl,hat⟩:=World.cells?_some hc
   obtain ⟨y,hy⟩:=hA.2 ht'
   refine ⟨y,cs',hcl,fun j hj=>?_,hy⟩
   rw [← hat j hj,Go.Deep.add_add]
  have all:∀ k,k≤len→∃ l:List α,l.length = k∧∀ i (hi:i < l.length), ∃ cs:List Value,cs.length = A.k∧(∀ j,j < A.k→W.cell? (a.add (i * A.k + j)) = cs[j]?)∧A.R (hpOf W) cs l[i]:=fun k=>by
   induction k with
   | zero=>exact fun _=>⟨[],rfl,fun i hi=>by simp at hi⟩
   | succ k ih =>
    intro hk
    obtain ⟨l,hl1,hl2⟩:=ih (by omega)
    obtain ⟨y,cs,hp⟩:=key k (by omega)
    refine ⟨l++[y],by simp [hl1],fun i hi=>?_⟩
    by_cases h:i < l.length
    ·rw [List.getElem_append_left h];exact hl2 i h
    ·have:i = l.length:=by simp at hi;omega
     subst this
     simp only [List.getElem_concat_length]
     rw [hl1];exact ⟨cs,hp⟩
  obtain ⟨l,hl1,hl2⟩:=all len (Nat.le_refl _)
  by_cases hz:len = 0
  ·exact ⟨[],some a,len,cap,hcs,⟨by rw [hz];rfl,hl,fun h=>absurd hz h,fun i hi=>by simp at hi⟩,by omega⟩
  ·obtain ⟨b,off,spot⟩:=a
   obtain ⟨cs0,hc0,hc1,_⟩:=hl2 0 (by omega)
   have hsp:=World.cell?_spot ((hc1 0 (by omega)).trans (List.getElem?_eq_getElem (by omega)))
   have:spot = none:=by simpa [Addr.add] using hsp
   subst this
   refine ⟨l,some ⟨b,off,none⟩,len,cap,hcs,⟨hl1,hl,fun _=>rfl,fun i hi=>?_⟩,by omega⟩
   obtain ⟨cs,q1,q2,q3⟩:=hl2 i hi
   refine ⟨cs,q1,fun j v hj=>?_,q3⟩
   have hlt:j < A.k:=by have:=(List.getElem?_eq_some_iff.1 hj).1;omega
   have:=(q2 j hlt).trans hj
   rw [addr_add] at this
   have:=cell_rd this
   rwa [← Nat.add_assoc] at this⟩

theorem Opens.two {α:Type} {t e:TypeId} {A:Cd α} (ht:P.underlying t = some (.array 2 e)) (hA:Opens P e A) (hk:P.cellsOf t = 2 * A.k):Opens P t (cdPair A (cdPair A cdUnit)):=⟨by rw [hk];show _ = A.k + (A.k + 0);omega,fun {H enc W base spare held fuel cs x} h=>by
 obtain ⟨xs,m,_,_,hlen,hl,hat⟩:=DataW.trod_array ht h
 rw [hk] at hlen
 simp only [hA.1] at hat
 obtain ⟨y0,h0⟩:=hA.2 ((hat 0 (by omega)).trans (List.getElem?_eq_getElem (by omega)))
 obtain ⟨y1,h1⟩:=hA.2 ((hat 1 (by omega)).trans (List.getElem?_eq_getElem (by omega)))
 refine ⟨(y0,y1,()),cs.take A.k,cs.drop A.k,(List.take_append_drop _ _).symm, ?_,cs.drop A.k,[],(List.append_nil _).symm, ?_,rfl⟩
 ·simpa using h0
 ·have h1:=h1
  rw [Nat.one_mul,List.take_of_length_le (by rw [List.length_drop];omega)] at h1
  exact h1⟩
def VR {α:Type} (A:Cd α) (agg:Bool) (G:Hp) (v:Value) (x:α):Prop:=match agg with
 | true=>∃ cs,v = .agg cs∧A.R G cs.toList x
 | false=>A.R G [v] x
theorem Opens.agg {α:Type} {t:TypeId} {A:Cd α} (hA:Opens P t A) {fs:List (TypeId × Nat)} (hf:fieldsT P t = some fs) {r:Reach} {b0:Nat} {v:Value} {H:Type} {enc:TypeId × Value→H} {W:World} {base:Nat} {spare:Nat→Bool} {held:Bool} {d:DataW H} {p:List MemPlace}
  (hv:Value.okWide P W r b0 t v) (h:DataW.Trod enc P W base spare held t v d p):∃ x,VR A true (hpOf W) v x:=by
 unfold fieldsT at hf
 split at hf
 ·rename_i fs' hu
  obtain ⟨cs,rfl,hsz⟩:=okWide_struct hu hv
  obtain ⟨fuel,hf⟩:=h
  obtain ⟨y,hy⟩:=hA.2 hf
  exact ⟨y,cs,rfl,hy⟩
 ·cases hf
def plainT (P:Program) (t:TypeId):Bool:=match P.underlying t with
 | some (.int _)=>true
 | some .bool=>true
 | some .string=>true
 | some (.slice _)=>true
 | _=>false
theorem Opens.one {α:Type} {t:TypeId} {A:Cd α} (hA:Opens P t A) (hp:plainT P t = true) {r:Reach} {b0:Nat} {v:Value} {H:Type} {enc:TypeId × Value→H} {W:World} {base:Nat} {spare:Nat→Bool} {held:Bool} {d:DataW H} {p:List MemPlace}
  (hv:Value.okWide P W r b0 t v) (h:DataW.Trod enc P W base spare held t v d p):∃ x,VR A false (hpOf W) v x:=by
 obtain ⟨fuel,hf⟩:=h
 have hc:v.cells.toList = [v]:=by
  unfold plainT at hp
  split at hp
  ·rename_i hu;obtain ⟨n,rfl⟩:=okWide_int hu hv;rfl
  ·rename_i hu;obtain ⟨n,rfl⟩:=okWide_bool hu hv;rfl
  ·rename_i hu;obtain ⟨n,rfl⟩:=okWide_string hu hv;rfl
  ·rename_i hu;obtain ⟨a,n,c,rfl⟩:=okWide_slice hu hv;rfl
  ·cases hp
 rw [hc] at hf
 exact hA.2 hf
end

/-! ### The frame of a row -/

theorem trodAll_stays {H:Type} {enc:TypeId × Value→H} {P:Program} (hl:laidOutB P = true) {W W':World} (hb:Below W.heap.size W W'):∀ {ts:List TypeId} {vs:List Value} {ds:List (DataW H)} {p:List MemPlace},
  (ts.all fun t=>P.readableRec t && Nat.blt t P.types.size) = true→DataW.TrodAll enc P W 0 (fun _=>true) true ts vs ds p→DataW.TrodAll enc P W' 0 (fun b=>decide (b < W.heap.size)) true ts vs ds p
 | [],vs,ds,p,_,h=>by
  obtain ⟨rfl,rfl,rfl⟩:=trodAll_nil h
  exact trodAll_mk0
 | t :: ts,vs,ds,p,ht,h=>by
  obtain ⟨v,vs',d,ds',p0,q0,rfl,rfl,rfl,h0,r0⟩:=trodAll_cons h
  simp only [List.all_cons,Bool.and_eq_true] at ht
  have lt0:∀ x∈p0,x.block < W.heap.size:=by obtain ⟨m,hm⟩:=h0;exact DataW.trod_lt m _ _ _ hm
  exact trodAll_cons_mk (Below.trod hl ht.1.1 (by simpa [Nat.blt_eq] using ht.1.2) h0 hb lt0) (trodAll_stays hl hb ht.2 r0)
theorem trodAll_dlen {H:Type} {enc:TypeId × Value→H} {P:Program} {W:World} {base:Nat} {spare:Nat→Bool} {held:Bool}:∀ {ts:List TypeId} {vs:List Value} {ds:List (DataW H)} {p:List MemPlace},DataW.TrodAll enc P W base spare held ts vs ds p→ds.length = ts.length
 | [],vs,ds,p,h=>by obtain ⟨_,rfl,_⟩:=trodAll_nil h;rfl
 | t :: ts,vs,ds,p,h=>by
  obtain ⟨v,vs',d,ds',p0,q0,rfl,rfl,rfl,h0,r0⟩:=trodAll_cons h
  simp [trodAll_dlen r0]

theorem law_lifted {C:Checked} {f:FuncId} {fn:Func} {spec:ChangeSpec} {ts:List TypeId} {tb:TypeId} {apart:Bool} {conds:List PathCond} (own:ownKnob C.prog.godebug = none) (noInit:C.prog.inits.idxOf? f = none) (hfn:C.prog.funcs[f]? = some fn) (laid:laidOutB C.prog = true)
  (hp:fn.params.toList = ts) (hr:fn.resultTypes = #[tb]) (ub:C.prog.underlying tb = some .bool) (hread:(ts.all fun t=>C.prog.readableRec t && Nat.blt t C.prog.types.size) = true)
  (hvars:spec.vars = []) (hspec:∀ (H:Type) (ds:List (DataW H)),ds.length = ts.length→spec.fn H ds = { results:=[.lit (.bool true)],args:=ds })
  (hlaw:∀ {H:Type} {enc:TypeId × Value→H} (W:World) (b0:Nat) (args:Array Value) (ds:List (DataW H)) (p:List MemPlace),(∀ (j:Nat) t v,ts[j]? = some t→args[j]? = some v→Value.okWide C.prog W .any b0 t v)→DataW.TrodAll enc C.prog W 0 (fun _=>true) true ts args.toList ds p →
   Calls C.prog f args W fun e W'=>e = .returned (.bool true)∧Below W.heap.size W W')
  {H:Type} {enc:TypeId × Value→H} (os:Os) (started:os.Started)
  (witness:∃ (w:World) (tape:Tape) (i:Input),w.os = os∧(w.forCall tape i).Shaped C.prog∧i.vars = []∧Input.okWide C.prog (w.forCall tape i) .any w.heap.size f i ∧
   spec.pre6 enc C.prog fn conds apart (w.forCall tape i).memory i.args∧({}:Assume).holds C.prog (lone (Frame.enter C.prog f i.args .normal) [] (w.forCall tape i))) :
  ReturnsInHanded {} C os f .any (spec.pre6 enc C.prog fn conds apart) (spec.post enc C.prog fn apart true false false):=by
 refine returnsInHanded_of_change own started noInit hfn witness ?_
 intro W base args ds gs before hval0 hW hcnd _
 have hW':=hW
 obtain ⟨p,q,hA,hV,rfl,hfz,hnd⟩:=hW
 rw [hp] at hA
 rw [hvars] at hV
 obtain ⟨rfl,rfl⟩:=trodVars_none hV
 have hval:∀ (j:Nat) t v,ts[j]? = some t→args[j]? = some v→Value.okWide C.prog W .any base t v:=fun j t v e1 e2=>hval0 j t v (by rw [← hp] at e1;simpa using e1) e2
 refine (hlaw W base args ds p hval hA).mono fun e W' ⟨he,bel⟩=>?_
 subst he
 have hs:=hspec H (ds++[]) (by simpa using trodAll_dlen hA)
 refine ⟨_,rfl,ds,[],_,[],p,[],hW', ?_, ?_, ?_,bel.frame _,fun h=>by cases h⟩
 ·rw [hs,hr]
  exact trodAll_mk1 (shut_bool ub _)
 ·rw [hs,hp,List.append_nil]
  exact trodAll_stays laid bel hread hA
 ·rw [hs,hvars];rfl
end Go.Pal

namespace Go.Pal
open Go.RowKit
theorem monoT_nil {tab:FuncId→Option PSpec}:MonoT tab []:=fun f s h=>by cases h
theorem monoT_cons {tab:FuncId→Option PSpec} {f:FuncId} {ms:List FuncId} {s:PSpec} (h:tab f = some s) (hm:MonoP s) (hr:MonoT tab ms):MonoT tab (f :: ms):=fun g s' hg hs=>by
 rcases List.mem_cons.1 (memN_iff.1 hg) with rfl | hg
 ·rw [h] at hs;cases hs;exact hm
 ·exact hr g s' (memN_iff.2 hg) hs
end Go.Pal
