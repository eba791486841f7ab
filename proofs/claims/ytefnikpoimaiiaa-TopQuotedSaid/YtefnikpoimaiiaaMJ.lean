/- Layer 3: the sources of an item: the function value with its memory. Layer 3: the function value of the sources, made. Layer 3: Traces: what is known of a sheet after its steps (plain); the traces, the lost words. Layer 3: Traces. -/
import Derived.Test.YtefnikpoimaiiaaMI
import Derived.Test.YtefnikpoimaiiaaMD
import Derived.Tactics
import Derived.Tactics2
import Derived.Laws.Pointers
import Derived.Carry
import Derived.Laws.EntriesVeiled
set_option linter.unusedSimpArgs false
set_option linter.unusedVariables false
namespace Go.Proofs.Ytefnikpoimaiiaa
open Go.Pal Go.RowKit
set_option maxRecDepth 100000
structure Bk where
 b0:Nat
 b1:Nat
 b2:Nat
 b3:Nat
abbrev Bk.caps (B:Bk):Array Value:=#[ptr B.b0,ptr B.b1,ptr B.b2]
theorem und3c:Try.prog.underlying 3 = some (.int .i64):=by kernel_rfl
def Knows (L:List It) (G:Hp) (es:Array MapEntry):Prop:=∃ m:Int→Option Value,MapIs Try.prog 3 I es m∧∀ x v,m x = some v→SlV intE G v (grpF L x)
theorem Knows.grow {L:List It} {G G':Hp} {es:Array MapEntry} (hg:Grow G G') (h:Knows L G es):Knows L G' es:=by
 obtain ⟨m,h1,h2⟩:=h
 exact ⟨m,h1,fun x v e=>(h2 x v e).grow hg⟩
theorem Knows.nil {L:List It} {G:Hp}:Knows L G #[]:=⟨fun _=>none,MapIs.nil,fun _ _ h=>by cases h⟩
theorem Knows.find {L:List It} {G:Hp} {es:Array MapEntry} (h:Knows L G es) {x:Int} (hx:inR .i64 x) :
  ∃ r,KeyFind Try.prog 3 (I x) es r∧(lookV (.slice none 0 0) true es r = .tuple #[.slice none 0 0, .bool false]∨∃ v,lookV (.slice none 0 0) true es r = .tuple #[v, .bool true]∧SlV intE G v (grpF L x)) ∧
   ∀ G' c v,Grow G G'→SlV intE G' v (grpF L x)→Knows L G' (putE es c (I x) v r).1∧∃ r',KeyFind Try.prog 3 (I x) (putE es c (I x) v r).1 r'∧lookV (.slice none 0 0) false (putE es c (I x) v r).1 r' = v:=by
 obtain ⟨m,h1,h2⟩:=h
 obtain ⟨r,k1,k2,k3⟩:=MapIs.find (Maps.int_keyed und3c) (fun x y e=>by cases e;rfl) h1 (Maps.keyOf_int_mk und3c (wf_i64' hx)) (by simp [Instr.sameBits])
 refine ⟨r,k1, ?_,fun G' c v hg hv=>⟨⟨_,k3 c v,fun y u e=>?_⟩, ?_⟩⟩
 ·rw [k2]
  cases hm:m x with
  | none=>exact .inl rfl
  | some v=>exact .inr ⟨v,rfl,h2 x v hm⟩
 ·split at e
  ·rename_i hy;cases e;rw [hy];exact hv
  ·exact (h2 y u e).grow hg
 ·obtain ⟨r',l1,l2,_⟩:=MapIs.find (Maps.int_keyed und3c) (fun x y e=>by cases e;rfl) (k3 c v) (Maps.keyOf_int_mk und3c (wf_i64' hx)) (by simp [Instr.sameBits])
  refine ⟨r',l1, ?_⟩
  rw [l2,if_pos rfl];rfl
theorem Row.app {α:Type} {e:El α} {l us:List α} {n m:Nat} {vs ws:List Value} (h:Row e l n vs) (hm:m = us.length) (hw:ws = (us.map e.f).flatten):Row e (l++us) (n + m) (vs++ws) :=
 ⟨by rw [h.n,hm,List.length_append],by rw [h.vs,hw,List.map_append,List.flatten_append]⟩
section
variable (N:Nat) (d:Dr) (S:Sh) (sb:Nat) (B:Bk)
end
end Go.Proofs.Ytefnikpoimaiiaa

namespace Go.Proofs.Ytefnikpoimaiiaa
open Go.Pal Go.RowKit
set_option maxRecDepth 100000
end Go.Proofs.Ytefnikpoimaiiaa

namespace Go.Proofs.Ytefnikpoimaiiaa
open Go.Pal Go.RowKit
set_option maxRecDepth 100000
def Inv (N:Nat) (S:Sh):Prop:=∀ y∈S.its,((0≤y.o∧y.o < N∧y.m = 0)∨(y.o < 0∧1≤y.m))∧(y.g = 0∨y.m < y.g)∧y.m≤S.ch∧y.g≤S.ch
theorem Inv.wf {N:Nat} {S:Sh} (h:Inv N S):WfL N S.its:=fun y hy=>by
 obtain ⟨h1,h2,_⟩:=h y hy
 rcases h1 with h1 | h1
 ·exact .inl ⟨h1.1,h1.2.1⟩
 ·exact .inr ⟨h1.1,h1.2,h2⟩
def tracesF (d:Dr) (S:Sh):List Tr:=(placesF S.its).map fun i=>traceF d (ofF S.its (S.its.getD i default))
def srcsN (S:Sh) (n:Nat):List Int:=((placesF S.its).take n).flatMap fun i=>ofF S.its (S.its.getD i default)
def lostN (S:Sh) (n:Nat):List Int:=((List.range n).filter fun (k:Nat)=>!decide ((k:Int)∈srcsN S (placesF S.its).length)).map fun (k:Nat)=>(k:Int)
def lostF (d:Dr) (S:Sh):List Int:=lostN S d.ws.length
structure Ra where
 a:Option Addr
 n:Nat
 c:Nat
 f:Int
 l:Int
 b:Option Addr
 m:Nat
 e:Nat
def RaOk (G:Hp) (x:Ra) (t:Tr):Prop:=x.f = t.f∧x.l = t.l∧SlV intE G (.slice x.a x.n x.c) t.src∧SlV intE G (.slice x.b x.m x.e) t.rep
theorem RaOk.grow {G G':Hp} {x:Ra} {t:Tr} (hg:Grow G G') (h:RaOk G x t):RaOk G' x t:=⟨h.1,h.2.1,h.2.2.1.grow hg,h.2.2.2.grow hg⟩
def TrC (G:Hp) (cs:List Value) (t:Tr):Prop:=∃ a b,cs = [a,I t.f,I t.l,b]∧SlV intE G a t.src∧SlV intE G b t.rep
def RasOk (G:Hp) (l:List Ra) (ts:List Tr):Prop:=l.length = ts.length∧∀ i (h:i < l.length) (h':i < ts.length),RaOk G l[i] ts[i]
theorem RasOk.grow {G G':Hp} {l:List Ra} {ts:List Tr} (hg:Grow G G') (h:RasOk G l ts):RasOk G' l ts:=⟨h.1,fun i h1 h2=>(h.2 i h1 h2).grow hg⟩
theorem RasOk.snoc {G:Hp} {l:List Ra} {ts:List Tr} {x:Ra} {t:Tr} (h:RasOk G l ts) (hx:RaOk G x t):RasOk G (l++[x]) (ts++[t]):=by
 refine ⟨by simp [h.1],fun i h1 h2=>?_⟩
 have hl:=h.1
 by_cases hi:i < l.length
 ·rw [List.getElem_append_left hi,List.getElem_append_left (by omega)]
  exact h.2 i hi (by omega)
 ·have:i = l.length:=by simp at h1;omega
  subst this
  have e1:(l++[x])[l.length] = x:=by simp
  have e2:(ts++[t])[l.length]'h2 = t:=by
   have:ts.length = l.length:=hl.symm
   simp [List.getElem_append,this]
  rw [e1,e2];exact hx
end Go.Proofs.Ytefnikpoimaiiaa

namespace Go.Proofs.Ytefnikpoimaiiaa
open Go.Pal Go.RowKit
set_option maxRecDepth 100000
end Go.Proofs.Ytefnikpoimaiiaa
