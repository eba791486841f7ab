/- Equality of arrays of truth values. Layer 9: whether so many more orders are enough. Layer 9: the fewest orders. Functions that are given an own heap (at handle 0), which comes back turned: their contracts; contracts over what is published serve an own heap that is only read. Functions over an own heap whose handles begin at 3000: slice literals are published at once, their room is told. Contracts that yield what is published serve an own heap that is only read. Rows of an own heap: loads, the cells of a list of elements, a row from its block's first cell on. Layer 9: the index. Layer 9: the statements' own functions: lists, the same ones, the example's report. Layer 9: the examples that every statement asks. Layer 9: the examples that every statement asks: the walk. Layer 9: what is drawn, with no bounds; few; the statements' copies; the error. Layer 9: the drawn values, opened. Layer 9: reports and readers for the program. Layer 9: the view (the reference) is the program's. Layer 9: a report for the program, in an own heap. Layer 9: the reference's useless orders, and its fewest. -/
import Derived.Test.YtpcpjmplgladmaaMF
import Derived.ChangeKeysEq
import Derived.Test.YtpcpjmplgladmaaRows
import Derived.Test.YtpcpjmplgladmaaME
import Derived.Laws.BitsLemmas
set_option linter.unusedSimpArgs false
set_option linter.unusedVariables false
namespace Go.Pal
open Go
abbrev blA (n:Nat) (p:Nat→Bool):Array Value:=((List.range n).map fun i=>Value.bool (p i)).toArray
theorem part_bl {P:Program} {e:TypeId} (hz:szT P e = some 1) (he:P.underlying e = some .bool) {n i:Nat} {p:Nat→Bool} (hi:i < n) (w:World):(part e (blA n p) (i * 1)).run P w = .ok (.bool (p i)) w:=by
 have hag:aggT P e = some false:=by simp [aggT,he]
 have hsz:=run_sizeOf' (P:=P) (W:=w) (t:=e) (n:=1) hz
 have hgg:=run_isAgg' (P:=P) (W:=w) (t:=e) (g:=false) hag
 simp [part,hsz,hgg,Result.andThen,hi]
theorem eqItems_bl {P:Program} {e:TypeId} (hz:szT P e = some 1) (he:P.underlying e = some .bool) {n d:Nat} {p q:Nat→Bool} (w:World):∀ is:List Nat,(∀ i∈is,i < n)→(Op.eqItems (d + 1) e 1 (blA n p) (blA n q) is).run P w = .ok (is.all fun i=>p i == q i) w
 | [],_=>by simp [Op.eqItems]
 | i :: is,h=>by
  have hi:=h i (by simp)
  simp only [Op.eqItems,Sem.run_bind,part_bl hz he hi,Result.andThen_ok,run_equalIn_bool w d e _ _ he]
  cases hb:(p i == q i) with
  | false=>simp [hb]
  | true =>
   simp only [Bool.not_true,Bool.false_eq_true,if_false,List.all_cons,hb,Bool.true_and]
   exact eqItems_bl hz he w is fun j hj=>h j (by simp [hj])
theorem pur_eqB {P:Program} {t e:TypeId} {n:Nat} (hu:P.underlying t = some (.array n e)) (he:P.underlying e = some .bool) (hz:szT P e = some 1) (hg:P.eqGuardType P.depth t = false) (p q:Nat→Bool):∀ w,((POp.bin .eql t).sem [.agg (blA n p), .agg (blA n q)]).run P w = .ok (.bool ((List.range n).all fun i=>p i == q i)) w:=fun w=>by
 have e1:(POp.bin .eql t).sem [.agg (blA n p), .agg (blA n q)] = (do eqGuard .eql t (.tmp 0) (.tmp 0) (.agg (blA n p)) (.agg (blA n q));binOp .eql t (.agg (blA n p)) (.agg (blA n q))):=rfl
 obtain ⟨i,hi⟩:=info_of_underlying he
 have hc:P.cellsOf e = 1:=by
  have:=hz
  simp only [szT,hi,Option.some.injEq] at this
  simp [Program.cellsOf,hi,this]
 have h2:(Op.equalIn 10000 t (.agg (blA n p)) (.agg (blA n q))).run P w = .ok ((List.range n).all fun i=>p i == q i) w:=by
  rw [show (10000:Nat) = 9999 + 1 from rfl,run_equalIn_array w 9999 _ _ hu hi,hc]
  exact eqItems_bl (d:=9998) hz he w _ fun i hi=>List.mem_range.1 hi
 rw [e1]
 simp [run_eqGuard_agg w .eql t _ _ _ _ hg,run_eql_struct,h2,Result.andThen]
/-! ### A text and a number; three numbers -/
theorem struct_of {P:Program} {t:TypeId} (hu:(match P.underlying t with | some (.struct _)=>true | _=>false) = true):P.underlying t = some (.struct (P.fieldsOf t)):=by
 unfold Program.fieldsOf
 cases hx:P.underlying t with
 | none=>rw [hx] at hu;cases hu
 | some u=>cases u<;>first | rfl | (rw [hx] at hu;cases hu)
theorem ba_beq (a c:ByteArray):(a == c) = decide (a = c):=by
 by_cases h:a = c
 ·subst h
  rw [decide_eq_true rfl]
  cases a with
  | mk d=>show (d == d) = true;exact beq_self_eq_true d
 ·rw [decide_eq_false h]
  cases a with
  | mk d =>
   cases c with
   | mk d' =>
    show (d == d') = false
    exact beq_eq_false_iff_ne.2 fun e=>h (by rw [e])
theorem run_equalIn_str {P:Program} (w:World) (d:Nat) (t:TypeId) (a b:ByteArray) (h:P.underlying t = some .string):(Op.equalIn (d + 1) t (.string a) (.string b)).run P w = .ok (decide (a = b)) w:=by
 rw [← ba_beq]
 simp [Op.equalIn,run_underlying h]
theorem eqSI_run {P : Program} {t s e : TypeId} (hu : (match P.underlying t with | some (.struct _) => true | _ => false) = true) (hf : (P.fieldsOf t).toList.map (fun f => (f.type, f.offset)) = [(s, 0), (e, 1)]) (hn : (P.fieldsOf t).toList.all (fun f => f.name != "_") = true) (hse : P.underlying s = some .string) (he : P.underlying e = some (.int .i64)) (hzs : szT P s = some 1) (hz : szT P e = some 1)
  (hs:P.stoodInHeld t = false) (w:World) (a c:ByteArray) (b d:Int):(Op.equalIn 10000 t (.agg #[.string a,I b]) (.agg #[.string c,I d])).run P w = .ok (decide (a = c∧b = d)) w:=by
 rw [show (10000:Nat) = 9999 + 1 from rfl,run_equalIn_struct w 9999 t _ _ (struct_of hu) hs]
 generalize (P.fieldsOf t).toList = fs at hf hn
 have hag:aggT P e = some false:=by simp [aggT,he]
 have hags:aggT P s = some false:=by simp [aggT,hse]
 have hsz:=run_sizeOf' (P:=P) (W:=w) (t:=e) (n:=1) hz
 have hgg:=run_isAgg' (P:=P) (W:=w) (t:=e) (g:=false) hag
 have hszs:=run_sizeOf' (P:=P) (W:=w) (t:=s) (n:=1) hzs
 have hggs:=run_isAgg' (P:=P) (W:=w) (t:=s) (g:=false) hags
 obtain ⟨f1,f2,rfl⟩:∃ f1 f2,fs = [f1,f2]:=by
  have hl:=congrArg List.length hf
  simp only [List.length_map,List.length_cons,List.length_nil] at hl
  match fs,hl with
  | [f1,f2],_=>exact ⟨f1,f2,rfl⟩
 simp only [List.map_cons,List.map_nil,List.cons.injEq,Prod.mk.injEq,and_true] at hf
 obtain ⟨⟨t1,o1⟩,t2,o2⟩:=hf
 simp only [List.all_cons,List.all_nil,Bool.and_true,Bool.and_eq_true,bne_iff_ne,ne_eq] at hn
 have he1:=fun a b=>run_equalIn_int (P:=P) w 9998 e .i64 .i64 a b he
 have hs1:=fun a b=>run_equalIn_str (P:=P) w 9998 s a b hse
 simp only [Op.eqFields,t1,o1,t2,o2,hn.1,hn.2,ne_eq,not_false_eq_true,if_true]
 simp [part,hsz,hgg,hszs,hggs,he1,hs1,Result.andThen]
 by_cases h1:a = c
 ·subst h1
  by_cases h2:b = d
  ·subst h2;simp [he1]
  ·simp [he1,h2]
 ·simp [h1]
theorem pur_neSI {P : Program} {t s e : TypeId} (hu : (match P.underlying t with | some (.struct _) => true | _ => false) = true) (hf : (P.fieldsOf t).toList.map (fun f => (f.type, f.offset)) = [(s, 0), (e, 1)]) (hn : (P.fieldsOf t).toList.all (fun f => f.name != "_") = true) (hse : P.underlying s = some .string) (he : P.underlying e = some (.int .i64)) (hzs : szT P s = some 1) (hz : szT P e = some 1)
  (hs:P.stoodInHeld t = false) (hg:P.eqGuardType P.depth t = false) (a c:ByteArray) (b d:Int):∀ w,((POp.bin .neq t).sem [.agg #[.string a,I b], .agg #[.string c,I d]]).run P w = .ok (.bool (!decide (a = c∧b = d))) w:=fun w=>by
 have e1:(POp.bin .neq t).sem [.agg #[.string a,I b], .agg #[.string c,I d]] = (do eqGuard .neq t (.tmp 0) (.tmp 0) (.agg #[.string a,I b]) (.agg #[.string c,I d]);binOp .neq t (.agg #[.string a,I b]) (.agg #[.string c,I d])):=rfl
 rw [e1]
 simp [run_eqGuard_agg w .neq t _ _ _ _ hg,run_neq_struct,eqSI_run hu hf hn hse he hzs hz hs w,Result.andThen]
theorem eq3_run {P : Program} {t e : TypeId} (hu : (match P.underlying t with | some (.struct _) => true | _ => false) = true) (hf : (P.fieldsOf t).toList.map (fun f => (f.type, f.offset)) = [(e, 0), (e, 1), (e, 2)]) (hn : (P.fieldsOf t).toList.all (fun f => f.name != "_") = true) (he : P.underlying e = some (.int .i64)) (hz : szT P e = some 1)
  (hs:P.stoodInHeld t = false) (w:World) (a b c a' b' c':Int):(Op.equalIn 10000 t (.agg #[I a,I b,I c]) (.agg #[I a',I b',I c'])).run P w = .ok (decide (a = a'∧b = b'∧c = c')) w:=by
 rw [show (10000:Nat) = 9999 + 1 from rfl,run_equalIn_struct w 9999 t _ _ (struct_of hu) hs]
 generalize (P.fieldsOf t).toList = fs at hf hn
 have hag:aggT P e = some false:=by simp [aggT,he]
 have hsz:=run_sizeOf' (P:=P) (W:=w) (t:=e) (n:=1) hz
 have hgg:=run_isAgg' (P:=P) (W:=w) (t:=e) (g:=false) hag
 obtain ⟨f1,f2,f3,rfl⟩:∃ f1 f2 f3,fs = [f1,f2,f3]:=by
  have hl:=congrArg List.length hf
  simp only [List.length_map,List.length_cons,List.length_nil] at hl
  match fs,hl with
  | [f1,f2,f3],_=>exact ⟨f1,f2,f3,rfl⟩
 simp only [List.map_cons,List.map_nil,List.cons.injEq,Prod.mk.injEq,and_true] at hf
 obtain ⟨⟨t1,o1⟩,⟨t2,o2⟩,t3,o3⟩:=hf
 simp only [List.all_cons,List.all_nil,Bool.and_true,Bool.and_eq_true,bne_iff_ne,ne_eq] at hn
 have he1:=fun a b=>run_equalIn_int (P:=P) w 9998 e .i64 .i64 a b he
 simp only [Op.eqFields,t1,o1,t2,o2,t3,o3,hn.1,hn.2.1,hn.2.2,ne_eq,not_false_eq_true,if_true]
 simp [part,hsz,hgg,he1,Result.andThen]
 by_cases h1:a = a'
 ·subst h1
  by_cases h2:b = b'
  ·subst h2
   by_cases h3:c = c'
   ·subst h3;simp [he1]
   ·simp [he1,h3]
  ·simp [he1,h2]
 ·simp [h1]
theorem pur_eq3 {P : Program} {t e : TypeId} (hu : (match P.underlying t with | some (.struct _) => true | _ => false) = true) (hf : (P.fieldsOf t).toList.map (fun f => (f.type, f.offset)) = [(e, 0), (e, 1), (e, 2)]) (hn : (P.fieldsOf t).toList.all (fun f => f.name != "_") = true) (he : P.underlying e = some (.int .i64)) (hz : szT P e = some 1)
  (hs:P.stoodInHeld t = false) (hg:P.eqGuardType P.depth t = false) (a b c a' b' c':Int):∀ w,((POp.bin .eql t).sem [.agg #[I a,I b,I c], .agg #[I a',I b',I c']]).run P w = .ok (.bool (decide (a = a'∧b = b'∧c = c'))) w:=fun w=>by
 have e1:(POp.bin .eql t).sem [.agg #[I a,I b,I c], .agg #[I a',I b',I c']] = (do eqGuard .eql t (.tmp 0) (.tmp 0) (.agg #[I a,I b,I c]) (.agg #[I a',I b',I c']);binOp .eql t (.agg #[I a,I b,I c]) (.agg #[I a',I b',I c'])):=rfl
 rw [e1]
 simp [run_eqGuard_agg w .eql t _ _ _ _ hg,run_eql_struct,eq3_run hu hf hn he hz hs w,Result.andThen]
end Go.Pal

namespace Go.Proofs.Ytpcpjmplgladmaa
open Go.Pal
set_option maxRecDepth 100000
def cnF (P:List Int→Bool) (l:List Int):Nat→Nat→List Int→Bool
 | 0,_,now=>P now
 | f + 1,fr,now=>(List.range' fr (l.length - fr)).any fun j=>cnF P l f (j + 1) (now++[l.getD j 0])
def goN (P:List Int→Bool) (l:List Int) (f:Nat) (now:List Int) (i:Nat):Bool:=(List.range' i (l.length - i)).any fun j=>cnF P l f (j + 1) (now++[l.getD j 0])
theorem goN_end {P:List Int→Bool} {l:List Int} {f:Nat} {now:List Int}:goN P l f now l.length = false:=by simp [goN]
theorem goN_cons {P:List Int→Bool} {l:List Int} {f:Nat} {now:List Int} {i:Nat} (h:i < l.length):goN P l f now i = (cnF P l f (i + 1) (now++[l.getD i 0]) || goN P l f now (i + 1)):=by
 rw [goN,show l.length - i = (l.length - (i + 1)) + 1 by omega,List.range'_succ,List.any_cons]
 rfl
def sameV (g:Rg) (now:List Int):Bool:=(List.range 60).all fun i=>byF g now i == g.p i
structure Cn where
 bb:Nat
 bl:Nat
 bc:Nat
 wa:Option Addr
 wn:Nat
 wc:Nat
 oa:Option Addr
 on:Nat
 oc:Nat
 ma:Option Addr
 mn:Nat
 mc:Nat
 la:Option Addr
 ln:Nat
 lc:Nat
abbrev Cn.caps (B:Cn):Array Value:=#[bptr B.bb,bptr B.bl,bptr B.bc]
abbrev cnV (B:Cn):Value:=.func (.func 65) #[] B.caps
abbrev cnG (B:Cn) (g:Rg):List Value:=rgl (.slice B.wa B.wn B.wc) (.slice B.oa B.on B.oc) (.slice B.ma B.mn B.mc) g.r.cols g.x.year g.p
abbrev ledN (B:Cn) (g:Rg):List LE:=[⟨B.bb,false, .cells (cnG B g) 97⟩,⟨B.bl,false, .cells [.slice B.la B.ln B.lc] 26⟩,⟨B.bc,false, .cells [cnV B] 121⟩]
abbrev rowN (br n0 n cap:Nat) (now:List Int) (rest:List Value):LE:=⟨br,true, .row n0 n cap (now.map I) rest 3 1⟩
structure CtxN (B:Cn) (g:Rg) (l:List Int) (G:Hp):Prop where
 r:RgC G (.slice B.wa B.wn B.wc) (.slice B.oa B.on B.oc) (.slice B.ma B.mn B.mc) g
 l:SlV intE G (.slice B.la B.ln B.lc) l
theorem CtxN.grow {B:Cn} {g:Rg} {l:List Int} {G G':Hp} (hg:Grow G G') (h:CtxN B g l G):CtxN B g l G':=⟨h.r.grow hg,h.l.grow hg⟩
section
variable (B:Cn) (g:Rg) (l:List Int)
def cnPre (f:Nat) (args:List Value) (ls:List LE) (G:Hp):Prop:=∃ (now:List Int) (fr br n0 n cap:Nat) (rest:List Value),
 args = [.slice (some ⟨br,0,none⟩) n cap,I fr,I f]∧ls = ledN B g++[rowN br n0 n cap now rest]∧n = now.length∧1≤n∧n + f≤40∧(∀ x∈now,x∈l)∧fr≤l.length∧CtxN B g l G
def cnPost (f:Nat) (args:List Value) (ls:List LE) (v:Value) (ns:List LB) (_:Hp):Prop:=∃ (now:List Int) (fr br n0 n cap:Nat) (rest rest':List Value),
 args = [.slice (some ⟨br,0,none⟩) n cap,I fr,I f]∧ls = ledN B g++[rowN br n0 n cap now rest]∧v = .bool (cnF (sameV g) l f fr now)∧ns = [.row n0 n cap (now.map I) rest' 3 1]∧rest'.length = (cap - n) * 1
abbrev cnS (f:Nat):PSpec:=.st (cnPre B g l f) (cnPost B g l f)
end
theorem mapI_inj {l l':List Int} (h:l.map I = l'.map I):l = l':=(List.map_inj_right (fun a b h=>by injection h)).1 h
theorem fin4N {H:Nat→Option OB} {B:Cn} {g:Rg} {br n0 n cap:Nat} {now:List Int} {rest rest':List Value} (hn:n0≤n) (h1:H 0 = some (.cells (.named B.bb) ((cnG B g).map .val) 97)) (h2:H 1 = some (.cells (.named B.bl) [.val (.slice B.la B.ln B.lc)] 26)) (h3:H 2 = some (.cells (.named B.bc) [.val (cnV B)] 121))
  (h4:H 3 = some (.xrow br n cap (now.map I) rest' 3 1)):finL H 0 (ledN B g++[rowN br n0 n cap now rest]) [.row n0 n cap (now.map I) rest' 3 1] :=
 ⟨.cells (cnG B g) 97,⟨_,h1,toValsH_map _ _⟩,trivial,rfl, .cells [.slice B.la B.ln B.lc] 26,⟨_,h2,rfl⟩,trivial,rfl, .cells [cnV B] 121,⟨_,h3,rfl⟩,trivial,rfl, .row n0 n cap (now.map I) rest' 3 1,⟨h4,hn⟩,⟨rfl,rfl,rfl,rfl,rfl⟩,_,rfl,rfl⟩
theorem fin3N {H:Nat→Option OB} {B:Cn} {g:Rg} (h1:H 0 = some (.cells (.named B.bb) ((cnG B g).map .val) 97)) (h2:H 1 = some (.cells (.named B.bl) [.val (.slice B.la B.ln B.lc)] 26)) (h3:H 2 = some (.cells (.named B.bc) [.val (cnV B)] 121)):finL H 0 (ledN B g) [] :=
 ⟨.cells (cnG B g) 97,⟨_,h1,toValsH_map _ _⟩,trivial,rfl, .cells [.slice B.la B.ln B.lc] 26,⟨_,h2,rfl⟩,trivial,rfl, .cells [cnV B] 121,⟨_,h3,rfl⟩,trivial,rfl,rfl⟩
theorem lendN {H:Nat→Option OB} {B:Cn} {g:Rg} {h br n0 n cap:Nat} {now:List Int} {rest vs0 rest0:List Value} (h1:H 0 = some (.cells (.named B.bb) ((cnG B g).map .val) 97)) (h2:H 1 = some (.cells (.named B.bl) [.val (.slice B.la B.ln B.lc)] 26)) (h3:H 2 = some (.cells (.named B.bc) [.val (cnV B)] 121))
  (h4:H h = some (.xrow br n0 cap vs0 rest0 3 1)) (hs:vs0++rest0 = now.map I++rest) (hone:LB.one (.row n0 n cap (now.map I) rest 3 1)) :
  lendOk H [(0,⟨B.bb,false, .cells (cnG B g) 97⟩),(1,⟨B.bl,false, .cells [.slice B.la B.ln B.lc] 26⟩),(2,⟨B.bc,false, .cells [cnV B] 121⟩),(h,rowN br n0 n cap now rest)] :=
 ⟨⟨_,h1,toValsH_map _ _⟩,⟨_,h2,rfl⟩,⟨_,h3,rfl⟩,by simp only [h4];exact ⟨_,_,rfl,hs,hone⟩,trivial⟩
theorem ledN_inj {B:Cn} {g:Rg} {br n0 n cap br' n0' n' cap':Nat} {now now':List Int} {rest rest':List Value} (h:ledN B g++[rowN br n0 n cap now rest] = ledN B g++[rowN br' n0' n' cap' now' rest']):br = br'∧n0 = n0'∧n = n'∧cap = cap'∧now = now'∧rest = rest':=by
 have h:=List.append_cancel_left h
 simp only [List.cons.injEq,LE.mk.injEq,LB.row.injEq,and_true,true_and] at h
 obtain ⟨h1,h2,h3,h4,h5,h6⟩:=h
 exact ⟨h1,h2,h3,h4,mapI_inj h5,h6⟩
theorem und95:Try.prog.underlying 95 = some (.array 60 4):=by kernel_rfl
theorem und4:Try.prog.underlying 4 = some .bool:=by kernel_rfl
theorem eq95 (p q:Nat→Bool):∀ w,((POp.bin .eql 95).sem [.agg (vll p).toArray, .agg (vll q).toArray]).run Try.prog w = .ok (.bool ((List.range 60).all fun i=>p i == q i)) w :=
 pur_eqB und95 und4 (by kernel_rfl) (by kernel_rfl) p q
theorem objs_rowI {G:Hp} {b n cap:Nat} {l:List Int} {rest:List Value} (hG:G b = some (.cells (l.map I++rest).toArray 3 (0,0))) (hl:l.length = n) (hc:n≤cap) (hb:n≤140737488355328):SlV intE G (.slice (some ⟨b,0,none⟩) n cap) l:=by
 refine PubRow.slV (e:=intE) (vs:=l.map I) ⟨hc,fun _=>rfl,fun j v hj=>?_⟩ (mapI_flat l) hl hb
 have hj2:j < (l.map I).length:=(List.getElem?_eq_some_iff.1 hj).1
 show rd1 _ b (0 + j) = _
 simp only [rd1,hG,Nat.zero_add]
 simp only [List.getElem?_toArray,List.getElem?_append_left hj2,hj]
theorem can65 {B:Cn} {g:Rg} {l:List Int} (hi:∀ k∈l,0≤k∧k < g.r.orders.length) (ho:∀ o∈g.r.orders,0≤o.f∧o.f≤o.t∧o.t≤60) :
  ∀ f,Sound Try.prog 65 (fun a=>(#[]:Array Value).toList++a++B.caps.toList) (cnS B g l f):=by
 intro f
 induction f with
 | zero =>
  refine ⟨fun args ls v ns G G' hg h=>h,fun args ls G Wd hsub hls hnd hpre=>?_⟩
  obtain ⟨now,fr,br,n0,n,cap,rest,rfl,rfl,hnl,hn1,hnf,hmem,hfr,hctx⟩:=hpre
  have hone:=(hls (rowN br n0 n cap now rest) (by simp)).2.2
  obtain ⟨z1,z2,z3,z4,z5,z6⟩:=id hone
  refine st_sound (Tab.cons 62 _ by62 body62 (Tab.nil _)) comp65 (svs:=[.c (.row 3 n), .v (I fr), .v (I (0:Nat)), .c (.ptr 0 0), .c (.ptr 1 0), .c (.ptr 2 0)])
   (obs:=[.cells (.named B.bb) ((cnG B g).map .val) 97, .cells (.named B.bl) [.val (.slice B.la B.ln B.lc)] 26, .cells (.named B.bc) [.val (cnV B)] 121, .xrow br n cap (now.map I) rest 3 1]) (by simp) hsub hls hnd (Nat.le_refl _) ?_ ?_ ?_
  ·exact ⟨⟨rfl,_,_,rfl⟩,(Nat.le_of_ble_eq_true rfl:3 < 4),rfl,trivial,rfl,trivial,⟨_,rfl,rfl⟩,(Nat.le_of_ble_eq_true rfl:0 < 4),⟨_,rfl,rfl⟩,(Nat.le_of_ble_eq_true rfl:1 < 4),⟨_,rfl,rfl⟩,(Nat.le_of_ble_eq_true rfl:2 < 4),trivial⟩
  ·refine ⟨⟨_,rfl,relL_vals _ (cnG B g), ?_⟩,⟨_,rfl,relL_vals _ [.slice B.la B.ln B.lc], ?_⟩,⟨_,rfl,relL_vals _ [cnV B], ?_⟩,rfl,trivial⟩
   ·intro c hc;obtain ⟨v,_,rfl⟩:=List.mem_map.1 hc;trivial
   all_goals (intro c hc;simp at hc;subst hc;trivial)
  ·(conv=>whnf)
   refine IteP.mk (fun _=>W.mk ?_) (fun h=>absurd rfl h)
   (conv=>whnf)
   have hcap:n≤cap:=z4
   have hbig:n≤140737488355328:=by omega
   have hok:ByOk g now:=⟨fun k hk=>hi k (hmem k hk),ho⟩
   refine ScaP.mk (fun G1 hg1 hob=>⟨(g,now),_,_,rfl,⟨_,_,_,rfl,hctx.r.grow hg1⟩,objs_rowI (hob (br, .cells (now.map I++rest).toArray 3 (0,0)) (List.Mem.head _)) hnl.symm hcap hbig,hok⟩) (fun v hv=>W.mk ?_)
   obtain ⟨G1,hg1,hob,y,hy,rfl⟩:=hv
   have:y = (g,now):=(ok2 rgRd (slRd intE) ByOk).uniq _ _ _ _ hy ⟨_,_,rfl,⟨_,_,_,rfl,hctx.r.grow hg1⟩,objs_rowI (hob (br, .cells (now.map I++rest).toArray 3 (0,0)) (List.Mem.head _)) hnl.symm hcap hbig,hok⟩
   subst this
   dsimp only
   (conv=>whnf)
   refine PurP.of _ (eq95 (byF g now) g.p) (W.mk ?_)
   (conv=>whnf)
   have hfin:∀ b,sameV g now = b→cnPost B g l 0 [.slice (some ⟨br,0,none⟩) n cap,I fr,I (0:Nat)] (ledN B g++[rowN br n0 n cap now rest]) (.bool b) [.row n0 n cap (now.map I) rest 3 1] G :=
    fun b hb=>⟨now,fr,br,n0,n,cap,rest,rest,rfl,rfl,by rw [← hb];rfl,rfl,z3⟩
   refine ForkP.mk (fun hm=>W.mk ?_) (fun hm=>W.mk ?_)<;>(conv=>whnf)<;>exact FinS.mk ⟨_,fin4N z1 rfl rfl rfl rfl,hfin _ hm⟩
 | succ f ih =>
  refine ⟨fun args ls v ns G G' hg h=>h,fun args ls G Wd hsub hls hnd hpre=>?_⟩
  obtain ⟨now,fr,br,n0,n,cap,rest,rfl,rfl,hnl,hn1,hnf,hmem,hfr,hctx⟩:=hpre
  have hone:=(hls (rowN br n0 n cap now rest) (by simp)).2.2
  obtain ⟨z1,z2,z3,z4,z5,z6⟩:=id hone
  refine st_sound (Tab.nil _) comp65 (svs:=[.c (.row 3 n), .v (I fr), .v (I (f + 1:Nat)), .c (.ptr 0 0), .c (.ptr 1 0), .c (.ptr 2 0)])
   (obs:=[.cells (.named B.bb) ((cnG B g).map .val) 97, .cells (.named B.bl) [.val (.slice B.la B.ln B.lc)] 26, .cells (.named B.bc) [.val (cnV B)] 121, .xrow br n cap (now.map I) rest 3 1]) (by simp) hsub hls hnd (Nat.le_refl _) ?_ ?_ ?_
  ·exact ⟨⟨rfl,_,_,rfl⟩,(Nat.le_of_ble_eq_true rfl:3 < 4),rfl,trivial,rfl,trivial,⟨_,rfl,rfl⟩,(Nat.le_of_ble_eq_true rfl:0 < 4),⟨_,rfl,rfl⟩,(Nat.le_of_ble_eq_true rfl:1 < 4),⟨_,rfl,rfl⟩,(Nat.le_of_ble_eq_true rfl:2 < 4),trivial⟩
  ·refine ⟨⟨_,rfl,relL_vals _ (cnG B g), ?_⟩,⟨_,rfl,relL_vals _ [.slice B.la B.ln B.lc], ?_⟩,⟨_,rfl,relL_vals _ [cnV B], ?_⟩,rfl,trivial⟩
   ·intro c hc;obtain ⟨v,_,rfl⟩:=List.mem_map.1 hc;trivial
   all_goals (intro c hc;simp at hc;subst hc;trivial)
  ·(conv=>whnf)
   refine IteP.mk (fun h=>by exfalso;omega) (fun _=>W.mk ?_)
   (conv=>whnf)
   have hnl2:(now.map I).length = n:=by simp [hnl]
   refine LoopP.of { α:=Nat × List Value,fr:=fun x=>[(0, .c (.row 3 n)),(2, .v (I (f + 1:Nat))),(3, .c (.ptr 0 0)),(4, .c (.ptr 1 0)),(5, .c (.ptr 2 0)),(10, .v (I x.1))],H:=fun x=>[(0, .cells (.named B.bb) ((cnG B g).map .val) 97),(1, .cells (.named B.bl) [.val (.slice B.la B.ln B.lc)] 26),(2, .cells (.named B.bc) [.val (cnV B)] 121),(3, .xrow br n cap (now.map I) x.2 3 1)],ok:=fun x _=>x.1≤l.length∧x.2.length = (cap - n) * 1∧goN (sameV g) l f now x.1 = cnF (sameV g) l (f + 1) fr now,m:=fun x=>l.length - x.1 }
    (fr,rest) (HeadP.of [] ⟨rfl,rfl,rfl,rfl,rfl,rfl,trivial⟩ ⟨rfl,rfl,rfl,rfl,trivial⟩) ⟨hfr,z3,rfl⟩ (fun _=>⟨rfl,rfl⟩) (fun x G1 hG1 hx=>W.mk ?_)
   obtain ⟨i,rs⟩:=x
   obtain ⟨hi,hrs,hgo⟩:=hx
   dsimp only at hi hrs hgo
   have hctx1:=hctx.grow hG1
   obtain ⟨_,_,_,e1,hdl,hdn⟩:=hctx1.l
   cases e1
   have hdlen:=hdl.len
   have hz1:n0≤n:=z1
   dsimp only
   (conv=>whnf)
   refine IteP.mk (fun hlt=>W.mk ?_) (fun hge=>W.mk ?_)<;>(conv=>whnf)
   ·have hlt:i < l.length:=by omega
    have hce:=hdl.el hlt
    have hgd:l.getD i 0 = l[i]:=by simp [hlt]
    have hxm:l[i]∈l:=List.getElem_mem hlt
    rw [goN_cons hlt,hgd] at hgo
    generalize l[i] = x at hce hgd hxm hgo
    refine DrawP.mk monoT_nil rfl (W.mk ?_)
    (conv=>whnf)
    repeat' (first | (refine ob ?_ ?_;(first | trivial | omega | (simp only [inR];omega) | exact ble (by rfl) | exact SlR.some ‹_› (by omega));(conv=>whnf)) | (first | (refine ra ‹_› (by rfl) ?_;(conv=>whnf)) | (refine rb ‹_› (by rfl) ?_;(conv=>whnf)) | (refine rc ‹_› (by rfl) ?_;(conv=>whnf)) | (refine rd ‹_› (by rfl) ?_;(conv=>whnf))))
    repeat' (first | (refine OblP.mk rfl (W.mk ?_);(conv=>whnf)) | (refine ob ?_ ?_;(first | trivial | omega | (simp only [inR];omega) | exact ble (by rfl) | exact SlR.some ‹_› (by omega));(conv=>whnf)))
    have hlx:(now++[x]).length = n + 1:=by simp [hnl]
    have hml:((now++[x]).map I).length = n + 1:=by simp [hnl]
    have hone2:∀ v∈(now++[x]).map I,v.oneCell' = true:=fun v hv=>by obtain ⟨y,_,rfl⟩:=List.mem_map.1 hv;rfl
    have hmem2:∀ y∈now++[x],y∈l:=fun y hy=>by
     rcases List.mem_append.1 hy with h | h
     ·exact hmem y h
     ·simp at h;subst h;exact hxm
    have hf1:(((f + 1:Nat):Int) - 1) = (f:Int):=by omega
    refine IteP.mk (fun hroom=>W.mk ?_) (fun hroom=>W.mk ?_)<;>(conv=>whnf)
    ·have hroom:n + 1≤cap:=by omega
     repeat' (refine ob ?_ ?_;(first | trivial | omega | (simp only [inR];omega) | exact ble (by rfl) | exact SlR.some ‹_› (by omega));(conv=>whnf))
     refine FnvP.mk ⟨_,SoundFn.of body65 ih,W.mk ?_⟩
     (conv=>whnf)
     have hlr:(rs.drop (1 * 1)).length = (cap - (n + 1)) * 1:=by simp only [List.length_drop];omega
     refine StP.mk ⟨[(0,⟨B.bb,false, .cells (cnG B g) 97⟩),(1,⟨B.bl,false, .cells [.slice B.la B.ln B.lc] 26⟩),(2,⟨B.bc,false, .cells [cnV B] 121⟩),(3,rowN br n (n + 1) cap (now++[x]) (rs.drop (1 * 1)))],
      lendN rfl rfl rfl rfl (by simp) ⟨by omega,by rw [hml];omega,hlr,hroom,z5,hone2⟩,(by show ([0,1,2,3]:List Nat).Nodup;decide),
      ⟨now++[x],i + 1,br,n,n + 1,cap,rs.drop (1 * 1),by rw [hf1];rfl,rfl,hlx.symm,by omega,by omega,hmem2,hlt,hctx1⟩,fun v ns G3 hg3 hpost=>W.mk ?_⟩
     obtain ⟨now',fr',br',n0',n',cap',rest',rest2,q1,q2,rfl,rfl,hrl⟩:=hpost
     obtain ⟨rfl,rfl,rfl,rfl,rfl,rfl⟩:=ledN_inj q2
     rw [hf1] at q1
     simp only [List.cons.injEq,and_true,true_and,Value.int.injEq] at q1
     have hfr':fr' = i + 1:=by omega
     subst hfr'
     have et:((now++[x]).map I++rest2).take (n * 1) = now.map I:=by
      rw [Nat.mul_one,List.map_append,List.append_assoc];exact List.take_left' hnl2
     have hrl2:(((now++[x]).map I++rest2).drop (n * 1)).length = (cap - n) * 1:=by
      simp only [List.length_drop,List.length_append,hml,hrl];omega
     have hspec:∀ b,(cnF (sameV g) l f (i + 1) (now++[x]) || goN (sameV g) l f now (i + 1)) = b→cnPost B g l (f + 1) [.slice (some ⟨br,0,none⟩) n cap,I fr,I (f + 1:Nat)] (ledN B g++[rowN br n0 n cap now rest]) (.bool b) [.row n0 n cap (now.map I) (((now++[x]).map I++rest2).drop (n * 1)) 3 1] G3:=fun b hb =>
      ⟨now,fr,br,n0,n,cap,rest,_,rfl,rfl,by rw [← hb,hgo],rfl,hrl2⟩
     (conv=>whnf)
     refine ForkP.mk (fun hm=>W.mk ?_) (fun hm=>W.mk ?_)<;>(conv=>whnf)
     ·have e4:=(by show OB.xrow br n cap (now.map I) (((now++[x]).map I++rest2).drop (n * 1)) 3 1 = OB.xrow br n cap (((now++[x]).map I++rest2).take (n * 1)) (((now++[x]).map I++rest2).drop (n * 1)) 3 1;rw [et])
      refine FinS.mk ⟨_,fin4N z1 rfl rfl rfl (congrArg some e4.symm),hspec true (by rw [hm];rfl)⟩
     ·repeat' (refine ob ?_ ?_;(first | trivial | omega | (simp only [inR];omega) | exact ble (by rfl) | exact SlR.some ‹_› (by omega));(conv=>whnf))
      rw [hm,Bool.false_or] at hgo
      refine RoundP.of (i + 1,(((now++[x]).map I++rest2).drop (n * 1))) (HeadP.of [] ⟨rfl,rfl,rfl,rfl,rfl,rfl,trivial⟩ ⟨rfl,rfl,rfl,(by show OB.xrow br n cap (now.map I) (((now++[x]).map I++rest2).drop (n * 1)) 3 1 = OB.xrow br n cap (((now++[x]).map I++rest2).take (n * 1)) (((now++[x]).map I++rest2).drop (n * 1)) 3 1;rw [et]),trivial⟩) ⟨hlt,hrl2,hgo⟩ (by simp only;omega)
    ·repeat' (refine ob ?_ ?_;(first | trivial | omega | (simp only [inR];omega) | exact ble (by rfl) | exact SlR.some ‹_› (by omega));(conv=>whnf))
     refine PubP.opn (Nat.succ_ne_zero n) (fun bb cap2 rest2 g1 g2 g3=>W.mk ?_)
     (conv=>whnf)
     refine FnvP.mk ⟨_,SoundFn.of body65 ih,W.mk ?_⟩
     (conv=>whnf)
     refine StP.mk ⟨[(0,⟨B.bb,false, .cells (cnG B g) 97⟩),(1,⟨B.bl,false, .cells [.slice B.la B.ln B.lc] 26⟩),(2,⟨B.bc,false, .cells [cnV B] 121⟩),(27,rowN bb (n + 1) (n + 1) cap2 (now++[x]) rest2)],
      lendN rfl rfl rfl rfl (by simp) ⟨Nat.le_refl _,by rw [hml];omega,g3,g1,g2,hone2⟩,(by show ([0,1,2,27]:List Nat).Nodup;decide),
      ⟨now++[x],i + 1,bb,n + 1,n + 1,cap2,rest2,by rw [hf1];rfl,rfl,hlx.symm,by omega,by omega,hmem2,hlt,hctx1⟩,fun v ns G3 hg3 hpost=>W.mk ?_⟩
     obtain ⟨now',fr',br',n0',n',cap',rest',rest3,q1,q2,rfl,rfl,hrl⟩:=hpost
     obtain ⟨rfl,rfl,rfl,rfl,rfl,rfl⟩:=ledN_inj q2
     rw [hf1] at q1
     simp only [List.cons.injEq,and_true,true_and,Value.int.injEq] at q1
     have hfr':fr' = i + 1:=by omega
     subst hfr'
     have hspec:∀ b,(cnF (sameV g) l f (i + 1) (now++[x]) || goN (sameV g) l f now (i + 1)) = b→cnPost B g l (f + 1) [.slice (some ⟨br,0,none⟩) n cap,I fr,I (f + 1:Nat)] (ledN B g++[rowN br n0 n cap now rest]) (.bool b) [.row n0 n cap (now.map I) rs 3 1] G3:=fun b hb =>
      ⟨now,fr,br,n0,n,cap,rest,_,rfl,rfl,by rw [← hb,hgo],rfl,hrs⟩
     (conv=>whnf)
     refine ForkP.mk (fun hm=>W.mk ?_) (fun hm=>W.mk ?_)<;>(conv=>whnf)
     ·have e4:=(rfl:OB.xrow br n cap (now.map I) rs 3 1 = _)
      refine FinS.mk ⟨_,fin4N z1 rfl rfl rfl (congrArg some e4.symm),hspec true (by rw [hm];rfl)⟩
     ·repeat' (refine ob ?_ ?_;(first | trivial | omega | (simp only [inR];omega) | exact ble (by rfl) | exact SlR.some ‹_› (by omega));(conv=>whnf))
      rw [hm,Bool.false_or] at hgo
      refine RoundP.of (i + 1,rs) (HeadP.of [] ⟨rfl,rfl,rfl,rfl,rfl,rfl,trivial⟩ ⟨rfl,rfl,rfl,(rfl:OB.xrow br n cap (now.map I) rs 3 1 = _),trivial⟩) ⟨hlt,hrs,hgo⟩ (by simp only;omega)
   ·have hie:i = l.length:=by omega
    subst hie
    rw [goN_end] at hgo
    have hfin:cnPost B g l (f + 1) [.slice (some ⟨br,0,none⟩) n cap,I fr,I (f + 1:Nat)] (ledN B g++[rowN br n0 n cap now rest]) (.bool false) [.row n0 n cap (now.map I) rs 3 1] G1 :=
     ⟨now,fr,br,n0,n,cap,rest,rs,rfl,rfl,by rw [← hgo],rfl,hrs⟩
    exact FinS.mk ⟨_,fin4N z1 rfl rfl rfl rfl,hfin⟩
end Go.Proofs.Ytpcpjmplgladmaa

namespace Go.Proofs.Ytpcpjmplgladmaa
open Go.Pal
set_option maxRecDepth 100000
abbrev nilV:Value:=.slice none 0 0
section
variable (B:Cn) (g:Rg) (l:List Int)
def c0Pre (f:Nat) (args:List Value) (ls:List LE) (G:Hp):Prop:=args = [nilV,I 0,I f]∧ls = ledN B g∧f≤39∧CtxN B g l G
def c0Post (f:Nat) (args:List Value) (ls:List LE) (v:Value) (ns:List LB) (_:Hp):Prop:=args = [nilV,I 0,I f]∧ls = ledN B g∧v = .bool (cnF (sameV g) l f 0 [])∧ns = []
abbrev c0S (f:Nat):PSpec:=.st (c0Pre B g l f) (c0Post B g l f)
end
theorem can65n {B:Cn} {g:Rg} {l:List Int} (hi:∀ k∈l,0≤k∧k < g.r.orders.length) (ho:∀ o∈g.r.orders,0≤o.f∧o.f≤o.t∧o.t≤60) (f:Nat) :
  Sound Try.prog 65 (fun a=>(#[]:Array Value).toList++a++B.caps.toList) (c0S B g l f):=by
 cases f with
 | zero =>
  refine ⟨fun args ls v ns G G' hg h=>h,fun args ls G Wd hsub hls hnd hpre=>?_⟩
  obtain ⟨rfl,rfl,hf,hctx⟩:=hpre
  refine st_sound (Tab.cons 62 _ by62 body62 (Tab.nil _)) comp65 (svs:=[.v nilV, .v (I 0), .v (I (0:Nat)), .c (.ptr 0 0), .c (.ptr 1 0), .c (.ptr 2 0)])
   (obs:=[.cells (.named B.bb) ((cnG B g).map .val) 97, .cells (.named B.bl) [.val (.slice B.la B.ln B.lc)] 26, .cells (.named B.bc) [.val (cnV B)] 121]) (by simp) hsub hls hnd (Nat.le_of_ble_eq_true rfl) ?_ ?_ ?_
  ·exact ⟨rfl,trivial,rfl,trivial,rfl,trivial,⟨_,rfl,rfl⟩,(Nat.le_of_ble_eq_true rfl:0 < 4),⟨_,rfl,rfl⟩,(Nat.le_of_ble_eq_true rfl:1 < 4),⟨_,rfl,rfl⟩,(Nat.le_of_ble_eq_true rfl:2 < 4),trivial⟩
  ·refine ⟨⟨_,rfl,relL_vals _ (cnG B g), ?_⟩,⟨_,rfl,relL_vals _ [.slice B.la B.ln B.lc], ?_⟩,⟨_,rfl,relL_vals _ [cnV B], ?_⟩,trivial⟩
   ·intro c hc;obtain ⟨v,_,rfl⟩:=List.mem_map.1 hc;trivial
   all_goals (intro c hc;simp at hc;subst hc;trivial)
  ·(conv=>whnf)
   refine IteP.mk (fun _=>W.mk ?_) (fun h=>absurd rfl h)
   (conv=>whnf)
   refine ScaP.g (ok2 rgRd (slRd intE) ByOk) (x:=(g,[])) ⟨_,_,rfl,⟨_,_,_,rfl,hctx.r⟩,SlV.nil,fun k hk=>(by cases hk),ho⟩ (fun v hv=>W.mk ?_)
   subst hv
   dsimp only
   (conv=>whnf)
   refine PurP.of _ (eq95 (byF g []) g.p) (W.mk ?_)
   (conv=>whnf)
   have hfin:∀ b,sameV g [] = b→c0Post B g l 0 [nilV,I 0,I (0:Nat)] (ledN B g) (.bool b) [] G:=fun b hb=>⟨rfl,rfl,by rw [← hb];rfl,rfl⟩
   refine ForkP.mk (fun hm=>W.mk ?_) (fun hm=>W.mk ?_)<;>(conv=>whnf)<;>exact FinS.mk ⟨_,fin3N rfl rfl rfl,hfin _ hm⟩
 | succ f =>
  have ih:=can65 (B:=B) hi ho f
  refine ⟨fun args ls v ns G G' hg h=>h,fun args ls G Wd hsub hls hnd hpre=>?_⟩
  obtain ⟨rfl,rfl,hf,hctx⟩:=hpre
  refine st_sound (Tab.nil _) comp65 (svs:=[.v nilV, .v (I 0), .v (I (f + 1:Nat)), .c (.ptr 0 0), .c (.ptr 1 0), .c (.ptr 2 0)])
   (obs:=[.cells (.named B.bb) ((cnG B g).map .val) 97, .cells (.named B.bl) [.val (.slice B.la B.ln B.lc)] 26, .cells (.named B.bc) [.val (cnV B)] 121]) (by simp) hsub hls hnd (Nat.le_of_ble_eq_true rfl) ?_ ?_ ?_
  ·exact ⟨rfl,trivial,rfl,trivial,rfl,trivial,⟨_,rfl,rfl⟩,(Nat.le_of_ble_eq_true rfl:0 < 4),⟨_,rfl,rfl⟩,(Nat.le_of_ble_eq_true rfl:1 < 4),⟨_,rfl,rfl⟩,(Nat.le_of_ble_eq_true rfl:2 < 4),trivial⟩
  ·refine ⟨⟨_,rfl,relL_vals _ (cnG B g), ?_⟩,⟨_,rfl,relL_vals _ [.slice B.la B.ln B.lc], ?_⟩,⟨_,rfl,relL_vals _ [cnV B], ?_⟩,trivial⟩
   ·intro c hc;obtain ⟨v,_,rfl⟩:=List.mem_map.1 hc;trivial
   all_goals (intro c hc;simp at hc;subst hc;trivial)
  ·(conv=>whnf)
   refine IteP.mk (fun h=>by exfalso;omega) (fun _=>W.mk ?_)
   (conv=>whnf)
   refine LoopP.of { α:=Nat,fr:=fun x=>[(0, .v nilV),(2, .v (I (f + 1:Nat))),(3, .c (.ptr 0 0)),(4, .c (.ptr 1 0)),(5, .c (.ptr 2 0)),(10, .v (I x))],H:=fun x=>[(0, .cells (.named B.bb) ((cnG B g).map .val) 97),(1, .cells (.named B.bl) [.val (.slice B.la B.ln B.lc)] 26),(2, .cells (.named B.bc) [.val (cnV B)] 121)],ok:=fun x _=>x≤l.length∧goN (sameV g) l f [] x = cnF (sameV g) l (f + 1) 0 [],m:=fun x=>l.length - x }
    0 (HeadP.of [] ⟨rfl,rfl,rfl,rfl,rfl,rfl,trivial⟩ ⟨rfl,rfl,rfl,trivial⟩) ⟨Nat.zero_le _,rfl⟩ (fun _=>⟨rfl,rfl⟩) (fun (i:Nat) G1 hG1 hx=>W.mk ?_)
   obtain ⟨hi,hgo⟩:=hx
   have hctx1:=hctx.grow hG1
   obtain ⟨_,_,_,e1,hdl,hdn⟩:=hctx1.l
   cases e1
   have hdlen:=hdl.len
   dsimp only
   (conv=>whnf)
   refine IteP.mk (fun hlt=>W.mk ?_) (fun hge=>W.mk ?_)<;>(conv=>whnf)
   ·have hlt:i < l.length:=by omega
    have hce:=hdl.el hlt
    have hgd:l.getD i 0 = l[i]:=by simp [hlt]
    have hxm:l[i]∈l:=List.getElem_mem hlt
    rw [goN_cons hlt,hgd,List.nil_append] at hgo
    generalize l[i] = x at hce hgd hxm hgo
    refine DrawP.mk monoT_nil rfl (W.mk ?_)
    (conv=>whnf)
    repeat' (first | (refine ob ?_ ?_;(first | trivial | omega | (simp only [inR];omega) | exact ble (by rfl) | exact SlR.some ‹_› (by omega));(conv=>whnf)) | (first | (refine ra ‹_› (by rfl) ?_;(conv=>whnf)) | (refine rb ‹_› (by rfl) ?_;(conv=>whnf)) | (refine rc ‹_› (by rfl) ?_;(conv=>whnf)) | (refine rd ‹_› (by rfl) ?_;(conv=>whnf))))
    repeat' (first | (refine OblP.mk rfl (W.mk ?_);(conv=>whnf)) | (refine ob ?_ ?_;(first | trivial | omega | (simp only [inR];omega) | exact ble (by rfl) | exact SlR.some ‹_› (by omega));(conv=>whnf)))
    have hf1:(((f + 1:Nat):Int) - 1) = (f:Int):=by omega
    refine PubP.opn (Nat.succ_ne_zero 0) (fun bb cap2 rest2 g1 g2 g3=>W.mk ?_)
    (conv=>whnf)
    refine FnvP.mk ⟨_,SoundFn.of body65 ih,W.mk ?_⟩
    (conv=>whnf)
    have hone2:∀ v∈[x].map I,v.oneCell' = true:=fun v hv=>by obtain ⟨y,_,rfl⟩:=List.mem_map.1 hv;rfl
    refine StP.mk ⟨[(0,⟨B.bb,false, .cells (cnG B g) 97⟩),(1,⟨B.bl,false, .cells [.slice B.la B.ln B.lc] 26⟩),(2,⟨B.bc,false, .cells [cnV B] 121⟩),(27,rowN bb 1 1 cap2 [x] rest2)],
     lendN rfl rfl rfl rfl (by simp) ⟨Nat.le_refl _,rfl,g3,g1,g2,hone2⟩,(by show ([0,1,2,27]:List Nat).Nodup;decide),
     ⟨[x],i + 1,bb,1,1,cap2,rest2,by rw [hf1];rfl,rfl,rfl,Nat.le_refl _,by omega,(fun y hy=>by simp at hy;subst hy;exact hxm),hlt,hctx1⟩,fun v ns G3 hg3 hpost=>W.mk ?_⟩
    obtain ⟨now',fr',br',n0',n',cap',rest',rest3,q1,q2,rfl,rfl,hrl⟩:=hpost
    obtain ⟨rfl,rfl,rfl,rfl,rfl,rfl⟩:=ledN_inj q2
    rw [hf1] at q1
    simp only [List.cons.injEq,and_true,true_and,Value.int.injEq] at q1
    have hfr':fr' = i + 1:=by omega
    subst hfr'
    (conv=>whnf)
    refine ForkP.mk (fun hm=>W.mk ?_) (fun hm=>W.mk ?_)<;>(conv=>whnf)
    ·refine FinS.mk ⟨_,fin3N rfl rfl rfl,rfl,rfl, ?_,rfl⟩
     rw [← hgo,hm];rfl
    ·repeat' (refine ob ?_ ?_;(first | trivial | omega | (simp only [inR];omega) | exact ble (by rfl) | exact SlR.some ‹_› (by omega));(conv=>whnf))
     rw [hm,Bool.false_or] at hgo
     exact RoundP.of (i + 1) (HeadP.of [] ⟨rfl,rfl,rfl,rfl,rfl,rfl,trivial⟩ ⟨rfl,rfl,rfl,trivial⟩) ⟨hlt,hgo⟩ (by simp only;omega)
   ·have hie:i = l.length:=by omega
    subst hie
    rw [goN_end] at hgo
    exact FinS.mk ⟨_,fin3N rfl rfl rfl,rfl,rfl,by rw [← hgo];rfl,rfl⟩
theorem cnF_all {P:List Int→Bool} {l:List Int}:∀ (f fr:Nat) (now:List Int),fr + f = l.length→P (now++l.drop fr) = true→cnF P l f fr now = true
 | 0,fr,now,h,hp=>by
  rw [List.drop_of_length_le (by omega),List.append_nil] at hp
  exact hp
 | f + 1,fr,now,h,hp=>by
  have hlt:fr < l.length:=by omega
  rw [cnF,List.any_eq_true]
  refine ⟨fr,by simp [List.mem_range'];omega,cnF_all f (fr + 1) _ (by omega) ?_⟩
  rw [List.drop_eq_getElem_cons hlt] at hp
  rw [List.append_assoc]
  simpa [hlt] using hp
theorem byF_eq (g:Rg) (l:List Int) (i:Nat):byF g l i = l.any fun k=>decide ((g.r.orders.getD k.toNat ⟨0,0,0,0⟩).f≤(i:Int)) && decide ((i:Int) < (g.r.orders.getD k.toNat ⟨0,0,0,0⟩).t):=by
 have key:∀ (l:List Int) (p:Nat→Bool),l.foldl (fun p k=>hideF p (g.r.orders.getD k.toNat ⟨0,0,0,0⟩)) p i = (p i || l.any fun k=>decide ((g.r.orders.getD k.toNat ⟨0,0,0,0⟩).f≤(i:Int)) && decide ((i:Int) < (g.r.orders.getD k.toNat ⟨0,0,0,0⟩).t)):=fun l=>by
  induction l with
  | nil=>intro p;simp
  | cons k r ih=>intro p;rw [List.foldl_cons,ih,List.any_cons];simp only [hideF,Bool.or_assoc]
 rw [byF,key];rfl
theorem holK_iff (g:Rg):∀ (i:Nat) (k:Int),k∈holK g i↔∃ j:Nat,j < i∧k = j∧holdsF (g.r.orders.getD j ⟨0,0,0,0⟩) g.x = true
 | 0,k=>by simp [holK]
 | i + 1,k=>by
  have ih:=holK_iff g i k
  simp only [holK]
  split
  ·rename_i h
   rw [List.mem_append,ih,List.mem_singleton]
   constructor
   ·rintro (⟨j,h1,h2,h3⟩ | rfl)
    ·exact ⟨j,by omega,h2,h3⟩
    ·exact ⟨i,by omega,rfl,h⟩
   ·rintro ⟨j,h1,h2,h3⟩
    by_cases he:j = i
    ·exact .inr (by rw [h2,he])
    ·exact .inl ⟨j,by omega,h2,h3⟩
  ·rename_i h
   rw [ih]
   constructor
   ·rintro ⟨j,h1,h2,h3⟩;exact ⟨j,by omega,h2,h3⟩
   ·rintro ⟨j,h1,h2,h3⟩
    refine ⟨j, ?_,h2,h3⟩
    by_cases he:j = i
    ·subst he;exact absurd h3 h
    ·omega
theorem by_hol (r:Rp) (x:Rx) (i:Nat):byF (rgOf r x) (holF (rgOf r x)) i = hidF r x i:=by
 rw [byF_eq,Bool.eq_iff_iff,hidF]
 simp only [List.any_eq_true,hidO,inF,Bool.and_eq_true,decide_eq_true_eq]
 constructor
 ·rintro ⟨k,hk,h1,h2⟩
  obtain ⟨j,hj,rfl,hh⟩:=(holK_iff (rgOf r x) _ k).1 hk
  have hj:j < r.orders.length:=hj
  have e:(rgOf r x).r.orders.getD j ⟨0,0,0,0⟩ = r.orders[j]:=by simp [rgOf,hj]
  rw [Int.toNat_natCast,e] at h1 h2
  rw [e] at hh
  exact ⟨_,List.getElem_mem hj,hh,h1,by omega⟩
 ·rintro ⟨o,ho,hh,h1,h2⟩
  obtain ⟨j,hj,rfl⟩:=List.getElem_of_mem ho
  have e:(rgOf r x).r.orders.getD j ⟨0,0,0,0⟩ = r.orders[j]:=by simp [rgOf,hj]
  refine ⟨(j:Int),(holK_iff (rgOf r x) _ _).2 ⟨j,hj,rfl,by rw [e];exact hh⟩, ?_⟩
  rw [Int.toNat_natCast,e]
  exact ⟨h1,by omega⟩
theorem sameV_hol (r:Rp) (x:Rx):sameV (rgOf r x) (holF (rgOf r x)) = true:=by
 rw [sameV,List.all_eq_true]
 intro i _
 rw [by_hol]
 exact beq_self_eq_true _
def IsFew (g:Rg) (n:Nat):Prop:=cnF (sameV g) (holF g) n 0 [] = true∧∀ m,m < n→cnF (sameV g) (holF g) m 0 [] = false
def fewQ (p:Rp × Rx) (v:Value):Prop:=(faultX p.1 p.2≠0∧v = .tuple #[I 0,I (faultX p.1 p.2)])∨(faultX p.1 p.2 = 0∧∃ n:Nat,v = .tuple #[I n,I 0]∧IsFew (rgOf p.1 p.2) n)
theorem fewest37:Sound Try.prog 37 id (grel (args2 rpRd rxRd fun _ _=>True) fun p v _=>fewQ p v):=by
 refine comp37.grel (Tab.cons 44 _ read44 body44 (Tab.cons 61 _ holding61 body61 (Tab.nil _))) (ok2 _ _ _) (fun args G s h=>?_) (fun x v G G' hg h=>h) (fun args G p h=>?_)
 ·obtain ⟨v,w,rfl,_⟩:=h;simp
 ·obtain ⟨r,x⟩:=p
  obtain ⟨u,v,rfl,hr,hx,_⟩:=h
  dsimp only at hr hx
  obtain ⟨rw_,ro,rfl,hrc⟩:=id hr
  obtain ⟨m,rfl,hm⟩:=id hx
  obtain ⟨oa,on,oc,rfl,ho1,ho2⟩:=id hrc.o
  obtain ⟨wa,wn,wc,rfl,hw1,hw2⟩:=id hrc.w
  obtain ⟨ma,mn,mc,rfl,hm1,hm2⟩:=id hm
  (conv=>whnf)
  refine RelP.g (ok2 rpRd rxRd fun _ _=>True) (x:=(r,x)) ⟨_,_,rfl,hr,hx,trivial⟩ (Grow.refl _) (fun v G1 hg1 hq=>W.mk ?_)
  obtain ⟨gwa,gwn,gwc,goa,gon,goc,gma,gmn,gmc,gc,gy,gp,rfl,hq⟩:=hq
  dsimp only at hq
  dsimp only
  (conv=>whnf)
  refine IteP.mk (fun h1=>W.mk ?_) (fun h1=>W.mk ?_)<;>(conv=>whnf)
  rotate_left
  ·have h1:¬ faultX r x = 0:=h1
   exact FinP.mk (.inl ⟨h1,rfl⟩)
  have h1:faultX r x = 0:=h1
  obtain ⟨rfl,rfl,rfl,hgc⟩:=hq h1
  have hfine:=rgFine h1
  have hfn:=(faultX_fine h1).1
  have hol:(rgOf r x).r.orders.length≤12:=hfn.ol
  have hll:=holK_len (rgOf r x) (rgOf r x).r.orders.length
  have hmem:=holK_mem (rgOf r x) (rgOf r x).r.orders.length
  have hord:∀ o∈(rgOf r x).r.orders,0≤o.f∧o.f≤o.t∧o.t≤60:=fun o ho=>by
   have:=hfn.o o ho
   have:=hfn.wl
   omega
  refine RelP.g (ok1 rgRd fun g=>g.r.orders.length≤1000) (x:=rgOf r x) ⟨_,rfl,⟨_,_,_,rfl,hgc⟩,by omega⟩ (Grow.refl _) (fun v G2 hg2 hq2=>W.mk ?_)
  obtain ⟨la,ln,lc,rfl,hl1,hl2⟩:=id hq2
  (conv=>whnf)
  refine NameP.mk (fun b1=>W.mk ?_)
  (conv=>whnf)
  refine NameP.mk (fun b2=>W.mk ?_)
  (conv=>whnf)
  refine NameP.mk (fun b3=>W.mk ?_)
  (conv=>whnf)
  refine LoopP.of { α:=Nat,fr:=fun n=>[(9, .c (.ptr 22 0)),(10, .v (I n))],H:=fun _=>[(10, .cells (.named b1) ((rgl (.slice gwa gwn gwc) (.slice goa gon goc) (.slice gma gmn gmc) r.cols x.year (rgOf r x).p).map .val) 97),(20, .cells (.named b2) [.val (.slice la ln lc)] 26),(22, .cells (.named b3) [.val (cnV ⟨b1,b2,b3,gwa,gwn,gwc,goa,gon,goc,gma,gmn,gmc,la,ln,lc⟩)] 121)],ok:=fun n _=>n≤(holF (rgOf r x)).length∧∀ m,m < n→cnF (sameV (rgOf r x)) (holF (rgOf r x)) m 0 [] = false,m:=fun n=>(holF (rgOf r x)).length - n }
   0 (HeadP.of [] ⟨rfl,rfl,trivial⟩ ⟨rfl,rfl,rfl,trivial⟩) ⟨Nat.zero_le _,fun m hm=>by omega⟩ (fun _=>⟨rfl,rfl⟩) (fun (n:Nat) G3 hg3 hx=>W.mk ?_)
  obtain ⟨hn,hno⟩:=hx
  have hhl:(holF (rgOf r x)).length≤12:=Nat.le_trans hll hol
  have hctx:CtxN ⟨b1,b2,b3,gwa,gwn,gwc,goa,gon,goc,gma,gmn,gmc,la,ln,lc⟩ (rgOf r x) (holF (rgOf r x)) G3:=⟨(hgc.grow hg2).grow hg3,hq2.grow hg3⟩
  dsimp only
  (conv=>whnf)
  refine CallvP.fn _ (SoundFn.of body65 (can65n (B:=⟨b1,b2,b3,gwa,gwn,gwc,goa,gon,goc,gma,gmn,gmc,la,ln,lc⟩) (g:=rgOf r x) (l:=holF (rgOf r x)) hmem hord n)) (W.mk ?_)
  (conv=>whnf)
  refine StP.mk ⟨[(10,⟨b1,false, .cells (rgl (.slice gwa gwn gwc) (.slice goa gon goc) (.slice gma gmn gmc) r.cols x.year (rgOf r x).p) 97⟩),(20,⟨b2,false, .cells [.slice la ln lc] 26⟩),(22,⟨b3,false, .cells [cnV ⟨b1,b2,b3,gwa,gwn,gwc,goa,gon,goc,gma,gmn,gmc,la,ln,lc⟩] 121⟩)],
   ⟨⟨_,rfl,toValsH_map _ _⟩,⟨_,rfl,rfl⟩,⟨_,rfl,rfl⟩,trivial⟩,(by show ([10,20,22]:List Nat).Nodup;decide),⟨rfl,rfl,by omega,hctx⟩,fun v ns G4 hg4 hpost=>W.mk ?_⟩
  obtain ⟨_,_,rfl,rfl⟩:=hpost
  (conv=>whnf)
  refine ForkP.mk (fun hm=>W.mk ?_) (fun hm=>W.mk ?_)<;>(conv=>whnf)
  ·exact FinP.mk (.inr ⟨h1,n,rfl,hm,hno⟩)
  ·have hlt:n < (holF (rgOf r x)).length:=by
    rcases Nat.lt_or_ge n (holF (rgOf r x)).length with h | h
    ·exact h
    ·have he:n = (holF (rgOf r x)).length:=Nat.le_antisymm hn h
     have:=cnF_all (P:=sameV (rgOf r x)) (l:=holF (rgOf r x)) n 0 [] (by omega) (by simpa using sameV_hol r x)
     rw [hm] at this;cases this
   (refine ob ?_ ?_;(first | trivial | omega | (simp only [inR];omega) | exact ble (by rfl) | exact SlR.some ‹_› (by omega));(conv=>whnf))
   refine RoundP.of (n + 1) (HeadP.of [] ⟨rfl,rfl,trivial⟩ ⟨rfl,rfl,rfl,trivial⟩) ⟨hlt,fun m hm2=>?_⟩ (by simp only;omega)
   rcases Nat.lt_succ_iff_lt_or_eq.1 hm2 with h | rfl
   ·exact hno m h
   ·exact hm
end Go.Proofs.Ytpcpjmplgladmaa

namespace Go.Pal
open Go.RowKit
def heapS (p:Hp):Nat→Option OB:=fun i=>cond (Nat.beq i 0) (some (.heap p)) none
theorem heapS_some {p:Hp} {i:Nat} {ob:OB} (h:heapS p i = some ob):i = 0∧ob = .heap p:=by
 unfold heapS at h
 cases hb:Nat.beq i 0 with
 | true=>rw [hb] at h;cases h;exact ⟨Nat.eq_of_beq_eq_true hb,rfl⟩
 | false=>rw [hb] at h;cases h
abbrev dom (p:Hp):Nat→Prop:=fun b=>∃ o,p b = some o
def HasHp (H:Nat→Option OB) (p:Hp):Prop:=∀ b o,p b = some o→(∃ q,H 0 = some (.heap q)∧q b = some o)∨(∃ h cs t vs,H h = some (.cells (.named b) cs t)∧toValsH H cs = some vs∧o = .cells vs.toArray t (0,0)) ∨
 ∃ h n cap vs rest t k,H h = some (.xrow b n cap vs rest t k)∧o = .cells (vs++rest).toArray t (0,0)
structure FinHp (H:Nat→Option OB) (A:Hp→Prop):Prop where
 ex:∃ p,HasHp H p∧A p
theorem FinHp.of {H:Nat→Option OB} {A:Hp→Prop} {p:Hp} (h:H 0 = some (.heap p)) (k:A p):FinHp H A:=⟨p,fun b o e=>.inl ⟨p,h,e⟩,k⟩
section
variable {P:Program}
theorem sat_startHp {n:Nat} {args:List Value} (hn:args.length≤n) {G p:Hp} {W:World} (hsub:Sub G W) (hp:∀ b o,p b = some o→W.heap[b]? = some o∧G b = none):Sat ⟨W,dom p,[]⟩ G n (fun k=>k < 1000) (fun _=>undef) ⟨argFr args,heapS p,G⟩ { tmps:=args.toArray++Array.replicate (n - args.toArray.size) undef,defers:=[] } W:=by
 refine ⟨⟨Beneath.refl ⟨W,_,[]⟩,hsub,fun b o h=>.inl h,fun h ob e=>?_,fun h ob v e e2=>?_,fun h ob e _ b hb=>?_,fun h ob h' ob' b e e2 _ _ _=>?_⟩,fun i=>argFr_ment _ args i,fun h ob e=>?_,fun i=>args_frame _ i,by simp;omega,rfl⟩
 ·obtain ⟨_,rfl⟩:=heapS_some e;exact fun b o ho=>⟨.inr ⟨o,ho⟩,(hp b o ho).1⟩
 ·obtain ⟨_,rfl⟩:=heapS_some e;cases e2
 ·obtain ⟨_,rfl⟩:=heapS_some e;obtain ⟨o,ho⟩:=hb;exact (hp b o ho).2
 ·obtain ⟨rfl,_⟩:=heapS_some e;obtain ⟨rfl,_⟩:=heapS_some e2;rfl
 ·obtain ⟨rfl,rfl⟩:=heapS_some e;exact ⟨Nat.le_of_ble_eq_true rfl,trivial⟩
def Off0 (H:Nat→Option OB) (b:Nat):Prop:=match H 0 with
 | some (.heap p)=>p b = none
 | _=>True
def nmL (H:Nat→Option OB) (G:Hp):List Nat→HK→Prop
 | [],A=>W (A H G)
 | h :: r,A=>match H h with
  | some (.cells .anon cs t)=>∀ b,Off0 H b→nmL (upd H h (some (.cells (.named b) cs t))) G r A
  | some (.row none _ _ _ _)=>pubR H G h fun H G=>nmL H G r A
  | _=>False
structure NmP (H:Nat→Option OB) (G:Hp) (A:HK):Prop where
 ex:∃ hs,nmL H G hs A
theorem nmL_sound {w0:Root} {W:World} {G0:Hp} {M:Nat→Prop} {E:Nat→Value}:∀ {hs:List Nat} {H:Nat→Option OB} {G:Hp} {A:HK},Good w0 G0 M E W H G→nmL H G hs A→∃ H' G',A H' G'∧Grow G G'∧Good w0 G0 M E W H' G'
 | [],H,G,A,hg,hk=>⟨H,G,hk.out,Grow.refl _,hg⟩
 | h :: r,H,G,A,hg,hk=>by
  simp only [nmL] at hk
  split at hk
  ·rename_i cs t e
   obtain ⟨b,vs,e1,e2,e3,e4,e5,_⟩:=hg.sim.own h _ e
   have hoff:Off0 H b:=by
    unfold Off0
    split
    ·rename_i p hp
     cases hb:p b with
     | none=>rfl
     | some o =>
      have:=hg.sim.inj h _ 0 _ b e hp rfl (show blkOf (E h) = some b by rw [e1];rfl) ⟨o,hb⟩
      subst this
      rw [hp] at e;cases e
    ·trivial
   exact nmL_sound (good_rename hg (ob':=.cells (.named b) cs t) e rfl rfl ⟨b,vs,e1,e2,e3,e4,e5,rfl⟩ (hg.mH h _ e).2) (hk b hoff)
  ·obtain ⟨H1,G1,k1,g1,hg1⟩:=pubR_sound hg hk
   obtain ⟨H2,G2,k2,g2,hg2⟩:=nmL_sound hg1 k1
   exact ⟨H2,G2,k2,g1.trans g2,hg2⟩
  ·exact hk.elim
def resN (rs:List IRes) (σ:St) (K:List Value→HK):Prop:=NmP σ.H σ.G fun H G=>resK σ rs H G K
def finHp (rs:List IRes) (σ:St) (K:Value→Hp→Hp→Prop):Prop:=resN rs σ fun vs H G=>FinHp H fun p=>K (wrapV vs) p G
theorem resN_sound {w0:Root} {W:World} {G0:Hp} {n:Nat} {M:Nat→Prop} {E:Nat→Value} {σ:St} {a:Act} (hs:Sat w0 G0 n M E σ a W) {rvs:List ResultVar} {rs:List IRes} {K:List Value→HK} (hc:compRes P rvs = some rs)
  (hk:resN rs σ K):∃ vs H' G',(rvs.mapM (resSem a.tmps)).run P W = .ok vs W∧K vs H' G'∧Grow σ.G G'∧Good w0 G0 M E W H' G':=by
 obtain ⟨hs',hk⟩:=hk
 obtain ⟨H1,G1,k1,g1,hg1⟩:=nmL_sound ⟨hs.sim,hs.mH⟩ hk
 obtain ⟨vs,H2,G2,r1,k2,g2,hg2⟩:=resK_sound hs hc hg1 k1
 exact ⟨vs,H2,G2,r1,k2,g1.trans g2,hg2⟩
theorem body_soundN (T:Tab P) {e:Env} (he:e.Ok P) {f:FuncId} {fn:Func} {c:Code} {ic:IC} {b2 bd:Nat} {rs:List IRes} (hf:P.funcs[f]? = some fn) (hb:fn.body = some c) (hc:compC P fn.ntmps c bd = some (ic,b2)) (hr:compRes P fn.results.toList = some rs)
  {args:Array Value} {σ:St} {W:World} {E0:Nat→Value} {K:St→List Value→HK} {R:Ending→World→Prop}
  (hs:SatE e [] fn.ntmps bd (fun _=>False) E0 σ { tmps:=args++Array.replicate (fn.ntmps - args.size) undef,defers:=[] } W)
  (h:vc P T.get ⟨e.l,e.Y,[],e.pn⟩ ic bd σ fun o _ σ=>match o with
   | .norm=>resN rs σ (K σ)
   | .ret=>resN rs σ (K σ)
   | .exit _=>False)
  (hq:∀ σ' W' M E vs H' G',K σ' vs H' G'→Grow σ.G G'→Done e (σ'.fr POS) M E W' H' G'→R (.returned (wrapV vs)) W') (hpn:e.pn = none:=by rfl):Calls P f args W R:=by
 refine body_end T he hf hb hc hs h ?_ (fun t C ht=>by rw [hpn] at ht;cases ht) (.inl hpn)
 intro σ' a' W' M E hk hg h4 h5
 obtain ⟨vs,H',G',r1,k1,g1,hg1⟩:=resN_sound h5 hr hk
 obtain ⟨q1,q2⟩:=h4.now he g1 hg1.sim
 exact ⟨_,results_run r1,hq σ' W' M E vs H' G' k1 (hg.trans g1) ⟨q2,q1.at_⟩⟩
def hpVC (P:Program) (tab:FuncId→Option PSpec) (ic:IC) (rs:List IRes) (args:List Value) (p G:Hp) (K:Value→Hp→Hp→Prop):Prop :=
 vc P tab (.no []) ic 1000 ⟨argFr args,heapS p,G⟩ fun o _ σ=>match o with
  | .norm=>finHp rs σ K
  | .ret=>finHp rs σ K
  | .exit _=>False
theorem hp_fin {p G:Hp} {W W':World} {sv:SV} {M:Nat→Prop} {E:Nat→Value} {v:Value} {H':Nat→Option OB} {p' G':Hp} {K:Value→Hp→Hp→Prop} (hhp:HasHp H' p') (k1:K v p' G') (hg:Grow G G') (hd:Done (baseEnv (dom p) G W) sv M E W' H' G') :
  ∃ v' p'' G'',Ending.returned v = .returned v'∧K v' p'' G''∧(∀ b o,p'' b = some o→W'.heap[b]? = some o∧G'' b = none∧((∃ o,p b = some o)∨W.heap.size≤b))∧Grow G G''∧Sub G'' W'∧(∀ b o,G'' b = some o→G b = some o∨(∃ o,p b = some o)∨W.heap.size≤b)∧Beneath ⟨W,dom p,[]⟩ W':=by
 obtain ⟨q1,q2,q3⟩:=baseEnv_at.1 hd.at_
 have own:∀ h ob b,H' h = some ob→ob.pub = none→ob.has (E h) b→W.heap.size≤b∨dom p b:=fun h ob b e1 e2 e3=>q3 b (.inl ⟨⟨h,ob,e1,e3⟩,hd.sim.priv h ob e1 e2 b e3⟩)
 refine ⟨_,p',G',rfl,k1,fun b o e=>?_,hg,hd.sim.sub,fun b o e=>(q2 b o e).imp id fun h=>h.elim .inr .inl,q1⟩
 rcases hhp b o e with ⟨q,e1,e2⟩ | ⟨h,cs,t,us,e1,e2,rfl⟩ | ⟨h,n,cap,us,rest,t,k,e1,rfl⟩
 ·exact ⟨(hd.sim.own 0 _ e1 b o e2).2,hd.sim.priv 0 _ e1 rfl b ⟨o,e2⟩,(own 0 _ b e1 rfl ⟨o,e2⟩).symm⟩
 ·obtain ⟨b',vs',f1,f2,f3,f4,f5,f6⟩:=hd.sim.own h _ e1
  have f6:b = b':=f6
  subst f6
  have:=toValsH_rel (fun h ob v e e'=>hd.sim.name e e') f4 e2
  subst this
  have hb:(OB.cells (.named b) cs t).has (E h) b:=show blkOf (E h) = _ by rw [f1];rfl
  exact ⟨f3,hd.sim.priv h _ e1 rfl b hb,(own h _ b e1 rfl hb).symm⟩
 ·obtain ⟨f1,f2,f3,_⟩:=hd.sim.own h _ e1
  have hb:(OB.xrow b n cap us rest t k).has (E h) b:=show blkOf (E h) = _ by rw [f1];rfl
  exact ⟨f3,hd.sim.priv h _ e1 rfl b hb,(own h _ b e1 rfl hb).symm⟩
theorem CompAt.callsHp {f:FuncId} {ic:IC} {rs:List IRes} {nt:Nat} (C:CompAt P f 1000 ic rs nt) (T:Tab P) {args:List Value} {p G:Hp} {W:World} {K:Value→Hp→Hp→Prop} (hn:args.length≤nt) (hsub:Sub G W) (hp:∀ b o,p b = some o→W.heap[b]? = some o∧G b = none) (h:hpVC P T.get ic rs args p G K) :
  Calls P f args.toArray W fun e W'=>∃ v p' G',e = .returned v∧K v p' G'∧(∀ b o,p' b = some o→W'.heap[b]? = some o∧G' b = none∧((∃ o,p b = some o)∨W.heap.size≤b))∧Grow G G'∧Sub G' W'∧(∀ b o,G' b = some o→G b = some o∨(∃ o,p b = some o)∨W.heap.size≤b)∧Beneath ⟨W,dom p,[]⟩ W':=by
 obtain ⟨fn,c,b2,h1,h2,h3,h4,rfl⟩:=C.ex
 have hs:SatE (baseEnv (dom p) G W) [] fn.ntmps 1000 (fun _=>False) (fun _=>undef) ⟨argFr args,heapS p,G⟩ { tmps:=args.toArray++Array.replicate (fn.ntmps - args.toArray.size) undef,defers:=[] } W :=
  SatE.of (r:=⟨W,dom p,[]⟩) (G0:=G) (fun _ h=>h) (fun _ h=>h.elim) (Agree.refl _ _) ⟨baseEnv_at.2 ⟨Beneath.refl ⟨W,_,[]⟩,fun b o h=>.inl h,fun b h=>h.elim (fun h=>.inr h.1) (fun ⟨d,hd,_⟩=>by cases hd)⟩,fun b ⟨o,hb⟩=>(Array.getElem?_eq_some_iff.1 (hp b o hb).1).1,hsub,marks_start⟩ (Grow.refl _) (sat_startHp hn hsub hp)
 refine body_soundN T baseEnv_ok h1 h2 h3 h4 (K:=fun _ vs H G=>FinHp H fun p=>K (wrapV vs) p G) hs h ?_
 intro σ' W' M E vs H' G' ⟨p',hhp,k1⟩ hg hd
 exact hp_fin hhp k1 hg hd
theorem CompAt.hp {f:FuncId} {ic:IC} {rs:List IRes} {nt:Nat} (C:CompAt P f 1000 ic rs nt) (T:Tab P) {sh:List Value→List Value} {pre:List Value→Hp→Hp→Prop} {post:List Value→Hp→Value→Hp→Hp→Prop} (hn:∀ args p G,pre args p G→(sh args).length≤nt)
  (hm:∀ args p v p' G G',Grow G G'→post args p v p' G→post args p v p' G') (h:∀ args p G,pre args p G→hpVC P T.get ic rs (sh args) p G fun v p' G'=>post args p v p' G'):Sound P f sh (.hp pre post) :=
 ⟨hm,fun args p G W hs hp hpre=>(C.callsHp T (hn args p G hpre) hs hp (h args p G hpre)).mono fun e W' ⟨v,p',G',h1,h2,h3,h4,h5,h6,h7⟩=>⟨v,p',G',h1,h2,h3,h4,h5,h6,h7⟩⟩
def panVC (P:Program) (tab:FuncId→Option PSpec) (t:TypeId) (C:St→Prop) (ic:IC) (args:List Value) (p G:Hp):Prop :=
 vc P tab (.pan t C) ic 1000 ⟨argFr args,heapS p,G⟩ fun o _ _=>match o with
  | .norm=>False
  | .ret=>False
  | .exit _=>False
def panEnv (t:TypeId) (C:St→Prop) (ln:Nat→Prop) (G:Hp) (W:World):Env:=⟨0,[],(baseEnv ln G W).J,(baseEnv ln G W).Jx,some (t,C)⟩
theorem panEnv_ok {t:TypeId} {C:St→Prop} {ln:Nat→Prop} {G:Hp} {W:World}:(panEnv t C ln G W).Ok P:=⟨baseEnv_ok (P:=P).st,baseEnv_ok (P:=P).stx,fun k args _ _ _ h=>by simp [panEnv] at h⟩
def HeapQ (Q:Hp→Prop) (σ:St):Prop:=∃ q, σ.H 0 = some (.heap q)∧Q q
theorem CompAt.pan {f:FuncId} {ic:IC} {rs:List IRes} {nt:Nat} (C:CompAt P f 1000 ic rs nt) (T:Tab P) {t:TypeId} {pre:List Value→Hp→Hp→Prop} {post:List Value→Hp→Hp→Prop} (hn:∀ args p G,pre args p G→args.length≤nt) (hnr:noRange ic = true) (h:∀ args p G,pre args p G→panVC P T.get t (HeapQ (post args p)) ic args p G):PanF P f t pre post:=by
 intro args p G W hsub hp hpre
 have hn:=hn args p G hpre
 obtain ⟨fn,c,b2,h1,h2,h3,h4,rfl⟩:=C.ex
 have he:(panEnv t (HeapQ (post args p)) (dom p) G W).Ok P:=panEnv_ok
 have hs:SatE (panEnv t (HeapQ (post args p)) (dom p) G W) [] fn.ntmps 1000 (fun _=>False) (fun _=>undef) ⟨argFr args,heapS p,G⟩ { tmps:=args.toArray++Array.replicate (fn.ntmps - args.toArray.size) undef,defers:=[] } W :=
  SatE.of (r:=⟨W,dom p,[]⟩) (G0:=G) (fun _ h=>h) (fun _ h=>h.elim) (Agree.refl _ _) ⟨baseEnv_at.2 ⟨Beneath.refl ⟨W,_,[]⟩,fun b o h=>.inl h,fun b h=>h.elim (fun h=>.inr h.1) (fun ⟨d,hd,_⟩=>by cases hd)⟩,fun b ⟨o,hb⟩=>(Array.getElem?_eq_some_iff.1 (hp b o hb).1).1,hsub,marks_start⟩ (Grow.refl _) (sat_startHp hn hsub hp)
 refine body_end T he h1 h2 h3 (End:=fun _=>False) hs (h args p G hpre) (fun σ' a' W' M E h=>h.elim) ?_ (.inr fun _ h=>h)
 ·intro t' C' ht bd' σ' a' W' ds' ch k0 k9 k1 k2 k3
  cases ht
  obtain ⟨q,kq1,kq2⟩:=k9
  have hds:=k0 hnr
  subst hds
  obtain ⟨M,E,e0,q1,q2,q3,q4,q5⟩:=k3.now he
  rw [e0] at q4 q5 ⊢
  obtain ⟨hat,hat2,hat3⟩:=baseEnv_at.1 q4.at_
  refine ⟨ch,q,rfl,k1,kq2,fun b o e=>⟨(q5.sim.own 0 _ kq1 b o e).2, ?_⟩,hat⟩
  exact (hat3 b (.inl ⟨⟨0,_,kq1,⟨o,e⟩⟩,q5.sim.priv 0 _ kq1 rfl b ⟨o,e⟩⟩)).symm

/-! ### An own heap that is only read -/
abbrev unionHp:=overG
theorem over_union {p G:Hp} (d:Disj p G):Over p G (unionHp p G):=over_G d
theorem Over.sub {p G G1:Hp} {W:World} (h:Over p G G1) (hs:Sub G W) (hp:∀ b o,p b = some o→W.heap[b]? = some o):Sub G1 W:=fun b o e=>(h.2.2 b o e).elim (hs b o) (hp b o)
theorem Sound.hpSca {f:FuncId} {sh:List Value→List Value} {pre:List Value→Hp→Prop} {q:List Value→Hp→Value→Prop} (hs:Sound P f sh (.sca pre q)) :
  Sound P f sh (.hp (fun args p G=>∀ G1,Disj p G→Over p G G1→pre args G1) fun args p v p' _=>p' = p∧∃ G0 G1,Over p G0 G1∧q args G1 v):=by
 refine ⟨fun args p v p' G G' hg h=>h,fun args p G W hsub hp hpre=>?_⟩
 have d:Disj p G:=fun b o e=>(hp b o e).2
 have ho:=over_union d
 refine (hs args _ W (ho.sub hsub fun b o e=>(hp b o e).1) (hpre _ d ho)).mono ?_
 rintro e W' ⟨v,rfl,h1,hB⟩
 refine ⟨v,p,G,rfl,⟨rfl,G,_,ho,h1⟩,fun b o e=>⟨?_,(hp b o e).2, .inl ⟨o,e⟩⟩,Grow.refl _,fun b o e=>?_,fun b o e=>.inl e,⟨hB.os,hB.tape,hB.output,hB.size,fun k hk _=>hB.block k hk⟩⟩
 ·rw [hB.block b (Array.getElem?_eq_some_iff.1 (hp b o e).1).1];exact (hp b o e).1
 ·rw [hB.block b (Array.getElem?_eq_some_iff.1 (hsub b o e)).1];exact hsub b o e
theorem Sound.scaAt {f:FuncId} {sh:List Value→List Value} {α:Type} {R:GRel α} {q:α→Value→Prop} (hs:Sound P f sh (gsca R q)) (ok:GOk R) (x:α):Sound P f sh (.sca (fun args G=>R args G x) fun _ _ v=>q x v):=by
 refine fun args G W hsub hx=>(hs args G W hsub ⟨x,hx⟩).mono ?_
 rintro e W' ⟨v,h1,⟨y,hy,hq⟩,h2⟩
 have:=ok.uniq _ _ _ _ hy hx
 subst this
 exact ⟨v,h1,hq,h2⟩
theorem Sound.hpSca0 {f:FuncId} {sh:List Value→List Value} {pre:List Value→Hp→Hp→Prop} {post:List Value→Hp→Value→Hp→Hp→Prop} (hs:Sound P f sh (.hp pre post)) :
  Sound P f sh (.sca (fun args G=>pre args (fun _=>none) G) fun args _ v=>∃ p' G',post args (fun _=>none) v p' G'):=fun args G W hsub hpre =>
 (hs.2 args (fun _=>none) G W hsub (fun b o e=>by cases e) hpre).mono fun e W' ⟨v,p',G',h1,h2,_,_,_,_,hB⟩=>⟨v,h1,⟨p',G',h2⟩,⟨hB.os,hB.tape,hB.output,hB.size,fun k hk=>hB.block k hk (fun ⟨o,h⟩=>by cases h)⟩⟩
end
end Go.Pal

namespace Go.Pal
open Go.RowKit
section
variable {P:Program}
theorem sat_startHx {n:Nat} {args:List Value} (hn:args.length≤n) {G p:Hp} {W:World} (hsub:Sub G W) (hp:∀ b o,p b = some o→W.heap[b]? = some o∧G b = none):Sat ⟨W,dom p,[]⟩ G n (fun k=>k < 3000) (fun _=>undef) ⟨argFr args,heapS p,G⟩ { tmps:=args.toArray++Array.replicate (n - args.toArray.size) undef,defers:=[] } W:=by
 refine ⟨⟨Beneath.refl ⟨W,_,[]⟩,hsub,fun b o h=>.inl h,fun h ob e=>?_,fun h ob v e e2=>?_,fun h ob e _ b hb=>?_,fun h ob h' ob' b e e2 _ _ _=>?_⟩,fun i=>argFr_ment _ args i,fun h ob e=>?_,fun i=>args_frame _ i,by simp;omega,rfl⟩
 ·obtain ⟨_,rfl⟩:=heapS_some e;exact fun b o ho=>⟨.inr ⟨o,ho⟩,(hp b o ho).1⟩
 ·obtain ⟨_,rfl⟩:=heapS_some e;cases e2
 ·obtain ⟨_,rfl⟩:=heapS_some e;obtain ⟨o,ho⟩:=hb;exact (hp b o ho).2
 ·obtain ⟨rfl,_⟩:=heapS_some e;obtain ⟨rfl,_⟩:=heapS_some e2;rfl
 ·obtain ⟨rfl,rfl⟩:=heapS_some e;exact ⟨Nat.le_of_ble_eq_true rfl,trivial⟩
def hxVC (P:Program) (tab:FuncId→Option PSpec) (ic:IC) (rs:List IRes) (args:List Value) (p G:Hp) (K:Value→Hp→Hp→Prop):Prop :=
 vc P tab (.no []) ic 3000 ⟨argFr args,heapS p,G⟩ fun o _ σ=>match o with
  | .norm=>finHp rs σ K
  | .ret=>finHp rs σ K
  | .exit _=>False
theorem CompAt.callsHx {f:FuncId} {ic:IC} {rs:List IRes} {nt:Nat} (C:CompAt P f 3000 ic rs nt) (T:Tab P) {args:List Value} {p G:Hp} {W:World} {K:Value→Hp→Hp→Prop} (hn:args.length≤nt) (hsub:Sub G W) (hp:∀ b o,p b = some o→W.heap[b]? = some o∧G b = none) (h:hxVC P T.get ic rs args p G K) :
  Calls P f args.toArray W fun e W'=>∃ v p' G',e = .returned v∧K v p' G'∧(∀ b o,p' b = some o→W'.heap[b]? = some o∧G' b = none∧((∃ o,p b = some o)∨W.heap.size≤b))∧Grow G G'∧Sub G' W'∧(∀ b o,G' b = some o→G b = some o∨(∃ o,p b = some o)∨W.heap.size≤b)∧Beneath ⟨W,dom p,[]⟩ W':=by
 obtain ⟨fn,c,b2,h1,h2,h3,h4,rfl⟩:=C.ex
 have hs:SatE (baseEnv (dom p) G W) [] fn.ntmps 3000 (fun _=>False) (fun _=>undef) ⟨argFr args,heapS p,G⟩ { tmps:=args.toArray++Array.replicate (fn.ntmps - args.toArray.size) undef,defers:=[] } W :=
  SatE.of (r:=⟨W,dom p,[]⟩) (G0:=G) (fun _ h=>h) (fun _ h=>h.elim) (Agree.refl _ _) ⟨baseEnv_at.2 ⟨Beneath.refl ⟨W,_,[]⟩,fun b o h=>.inl h,fun b h=>h.elim (fun h=>.inr h.1) (fun ⟨d,hd,_⟩=>by cases hd)⟩,fun b ⟨o,hb⟩=>(Array.getElem?_eq_some_iff.1 (hp b o hb).1).1,hsub,marks_start⟩ (Grow.refl _) (sat_startHx hn hsub hp)
 refine body_soundN T baseEnv_ok h1 h2 h3 h4 (K:=fun _ vs H G=>FinHp H fun p=>K (wrapV vs) p G) hs h ?_
 intro σ' W' M E vs H' G' ⟨p',hhp,k1⟩ hg hd
 exact hp_fin hhp k1 hg hd
theorem CompAt.hx {f:FuncId} {ic:IC} {rs:List IRes} {nt:Nat} (C:CompAt P f 3000 ic rs nt) (T:Tab P) {sh:List Value→List Value} {pre:List Value→Hp→Hp→Prop} {post:List Value→Hp→Value→Hp→Hp→Prop} (hn:∀ args p G,pre args p G→(sh args).length≤nt)
  (hm:∀ args p v p' G G',Grow G G'→post args p v p' G→post args p v p' G') (h:∀ args p G,pre args p G→hxVC P T.get ic rs (sh args) p G fun v p' G'=>post args p v p' G'):Sound P f sh (.hp pre post) :=
 ⟨hm,fun args p G W hs hp hpre=>(C.callsHx T (hn args p G hpre) hs hp (h args p G hpre)).mono fun e W' ⟨v,p',G',h1,h2,h3,h4,h5,h6,h7⟩=>⟨v,p',G',h1,h2,h3,h4,h5,h6,h7⟩⟩
def OverX (p G:Hp) (Q:Hp→Prop):Prop:=∃ G0 G1,Grow G0 G∧Over p G0 G1∧Q G1
theorem OverX.grow {p G G':Hp} {Q:Hp→Prop} (hg:Grow G G') (h:OverX p G Q):OverX p G' Q:=by
 obtain ⟨G0,G1,h1,h2,h3⟩:=h
 exact ⟨G0,G1,h1.trans hg,h2,h3⟩
theorem OverX.at {p p' G G' G1':Hp} {Q:Hp→Prop} (h:OverX p G Q) (hq:∀ G G',Grow G G'→Q G→Q G') (hk:∀ b o,p b = some o→p' b = some o) (hg:Grow G G') (ho:Over p' G' G1'):Q G1':=by
 obtain ⟨G0,G1,h1,h2,h3⟩:=h
 exact hq G1 G1' (fun b o e=>(h2.2.2 b o e).elim (fun e=>ho.1 b o (hg b o (h1 b o e))) fun e=>ho.2.1 b o (hk b o e)) h3
theorem OverX.of {p G:Hp} {Q:Hp→Prop} (hd:Disj p G) (h:∀ G1,Over p G G1→Q G1):OverX p G Q:=⟨G,_,Grow.refl _,over_union hd,h _ (over_union hd)⟩
theorem OverX.imp {p G:Hp} {Q Q':Hp→Prop} (h:OverX p G Q) (hq:∀ G1,Q G1→Q' G1):OverX p G Q':=by
 obtain ⟨G0,G1,h1,h2,h3⟩:=h
 exact ⟨G0,G1,h1,h2,hq _ h3⟩
theorem Sound.hpRelX {f:FuncId} {sh:List Value→List Value} {pre:List Value→Hp→Prop} {q:List Value→Value→Hp→Prop} (hs:Sound P f sh (.rel pre q)) :
  Sound P f sh (.hp (fun args p G=>∀ G1,Disj p G→Over p G G1→pre args G1) fun args p v p' G=>p' = p∧OverX p G fun G1=>q args v G1):=by
 refine ⟨fun args p v p' G G' hg ⟨h1,h2⟩=>⟨h1,h2.grow hg⟩,fun args p G W hsub hp hpre=>?_⟩
 have d:Disj p G:=fun b o e=>(hp b o e).2
 have ho:=over_union d
 have hlow:∀ b o,p b = some o→b < W.heap.size:=fun b o e=>(Array.getElem?_eq_some_iff.1 (hp b o e).1).1
 refine (hs.2 args _ W (ho.sub hsub fun b o e=>(hp b o e).1) (hpre _ d ho)).mono ?_
 rintro e W' ⟨v,G1,rfl,h1,hg,hs1,hn,hB⟩
 have hkeep:∀ b o,p b = some o→G1 b = some o:=fun b o e=>hg b o (ho.2.1 b o e)
 obtain ⟨G2,hG2⟩:∃ G2:Hp,G2 = fun b=>match p b with
   | some _=>none
   | none=>G1 b:=⟨_,rfl⟩
 have g2n:∀ b o,p b = some o→G2 b = none:=fun b o e=>by rw [hG2];simp [e]
 have g2s:∀ b o,G2 b = some o→G1 b = some o∧p b = none:=fun b o e=>by
  rw [hG2] at e
  dsimp only at e
  cases hp:p b with
  | none=>rw [hp] at e;exact ⟨e,rfl⟩
  | some o'=>rw [hp] at e;cases e
 have gg:Grow G G2:=fun b o e=>by
  have h3:=hg b o (ho.1 b o e)
  rw [hG2]
  dsimp only
  cases hp:p b with
  | none=>exact h3
  | some o'=>rw [d b o' hp] at e;cases e
 have hover:Over p G2 G1:=⟨fun b o e=>(g2s b o e).1,hkeep,fun b o e=>by
  cases hp:p b with
  | none=>exact .inl (by rw [hG2];simp [hp,e])
  | some o'=>rw [hkeep b o' hp] at e;exact .inr e⟩
 refine ⟨v,p,G2,rfl,⟨rfl,G2,G1,Grow.refl _,hover,h1⟩,fun b o e=>⟨hs1 b o (hkeep b o e),g2n b o e, .inl ⟨o,e⟩⟩,gg,fun b o e=>hs1 b o (g2s b o e).1,fun b o e=>?_,⟨hB.os,hB.tape,hB.output,hB.size,fun k hk _=>hB.block k hk⟩⟩
 obtain ⟨k1,k2⟩:=g2s b o e
 rcases hn b o k1 with k3 | k3
 ·rcases ho.2.2 b o k3 with k4 | k4
  ·exact .inl k4
  ·rw [k2] at k4;cases k4
 ·exact .inr (.inr k3)
theorem OverX.rd {p G:Hp} {b off n:Nat} {cs:List Value} {A:List Value→Prop} (hp:∀ b o,p b = some o→∃ ds t,o = .cells ds t (0,0)) (h:OverX p G fun G1=>CellsAt G1 b off cs) (hn:0 < n) (hl:cs.length = n) (k:W (A cs)):RdhP p G b off n A:=by
 obtain ⟨G0,G1,h1,h2,h3⟩:=h
 obtain ⟨v,hv⟩:∃ v,cs[0]? = some v:=by
  cases cs with
  | nil=>simp at hl;omega
  | cons v r=>exact ⟨v,rfl⟩
 have h0:=h3 0 v hv
 cases hpb:p b with
 | none =>
  refine ⟨cs,⟨hl, .inl fun j w hj=>?_⟩,fun _=>k⟩
  have hj2:=h3 j w hj
  unfold rd1 at hj2 ⊢
  cases hG:G1 b with
  | none=>rw [hG] at hj2;simp at hj2
  | some o =>
   rcases h2.2.2 b o hG with e | e
   ·rw [h1 b o e];rw [hG] at hj2;exact hj2
   ·rw [hpb] at e;cases e
 | some o =>
  obtain ⟨ds,t,rfl⟩:=hp b o hpb
  have hG:=h2.2.1 b _ hpb
  refine ⟨cs,⟨hl, .inr ⟨ds.toList,t,by simpa using hpb, ?_⟩⟩,fun _=>k⟩
  apply List.ext_getElem?
  intro j
  by_cases hj:j < n
  ·have hjl:j < cs.length:=by omega
   have:=h3 j cs[j] (by simp [hjl])
   unfold rd1 at this
   rw [hG] at this
   rw [List.getElem?_eq_getElem hjl,List.getElem?_take,if_pos hj,List.getElem?_drop]
   simpa using this.symm
  ·rw [List.getElem?_eq_none (by omega),List.getElem?_take,if_neg hj]
end
end Go.Pal

namespace Go.Pal
open Go.RowKit
theorem RdhP.g {p G:Hp} {b off n:Nat} {A:List Value→Prop} {cs:List Value} (h:CellsAt G b off cs) (hl:cs.length = n) (k:W (A cs)):RdhP p G b off n A:=⟨cs,⟨hl, .inl h⟩,fun _=>k⟩
theorem RdhP.h {p G:Hp} {b off n:Nat} {A:List Value→Prop} {ds:List Value} {t:TypeId} (h:p b = some (.cells ds.toArray t (0,0))) (hl:((ds.drop off).take n).length = n) (k:W (A ((ds.drop off).take n))):RdhP p G b off n A:=⟨_,⟨hl, .inr ⟨ds,t,h,rfl⟩⟩,fun _=>k⟩
def KeepHp (F:Nat→Prop) (p p':Hp):Prop:=∀ b o, ¬ F b→p b = some o→p' b = some o
theorem KeepHp.refl {F:Nat→Prop} {p:Hp}:KeepHp F p p:=fun _ _ _ h=>h
theorem KeepHp.trans {F:Nat→Prop} {p q r:Hp} (h:KeepHp F p q) (h':KeepHp F q r):KeepHp F p r:=fun b o hf e=>h' b o hf (h b o hf e)
/-! ### The cells of a list of elements -/
abbrev flat {α:Type} (E:El α) (l:List α):List Value:=(l.map E.f).flatten
theorem flat_app {α:Type} (E:El α) (a b:List α):flat E (a++b) = flat E a++flat E b:=by simp [flat]
theorem flat_len {α:Type} (E:El α) (l:List α):(flat E l).length = l.length * E.k:=by
 induction l with
 | nil=>simp [flat]
 | cons x r ih=>rw [show flat E (x :: r) = E.f x++flat E r from rfl,List.length_append,ih,E.len,List.length_cons,Nat.add_mul,Nat.one_mul];omega
theorem flat_td {α:Type} (E:El α) (l:List α) (i:Nat) (h:i≤l.length):flat E (l.take i) = (flat E l).take (i * E.k)∧flat E (l.drop i) = (flat E l).drop (i * E.k):=by
 have h1:flat E l = flat E (l.take i)++flat E (l.drop i):=by rw [← flat_app,List.take_append_drop]
 have hlen:(flat E (l.take i)).length = i * E.k:=by rw [flat_len,List.length_take,Nat.min_eq_left h]
 generalize flat E (l.take i) = x at h1 hlen
 generalize flat E (l.drop i) = y at h1
 generalize flat E l = z at h1
 subst h1
 rw [← hlen]
 simp
theorem flat_take {α:Type} (E:El α) (l:List α) (i:Nat) (h:i≤l.length):flat E (l.take i) = (flat E l).take (i * E.k):=(flat_td E l i h).1
theorem flat_drop {α:Type} (E:El α) (l:List α) (i:Nat) (h:i≤l.length):flat E (l.drop i) = (flat E l).drop (i * E.k):=(flat_td E l i h).2
theorem flat_one {α:Type} (E:El α) (l:List α):∀ v∈flat E l,v.oneCell' = true:=fun v hv=>by
 obtain ⟨x,hx,hv⟩:=List.mem_flatten.1 hv
 obtain ⟨y,_,rfl⟩:=List.mem_map.1 hx
 exact E.one y v hv
theorem flat_split {α:Type} (E:El α) (l:List α) (i:Nat) (h:i < l.length):flat E l = flat E (l.take i)++(E.f l[i]++flat E (l.drop (i + 1))):=by
 have:l = l.take i++(l[i] :: l.drop (i + 1)):=by rw [← List.drop_eq_getElem_cons h,List.take_append_drop]
 calc flat E l = flat E (l.take i++(l[i] :: l.drop (i + 1))):=by rw [← this]
  _ = _:=by rw [flat_app];rfl
theorem flat_sub {α:Type} (E:El α) (l:List α) (rest:List Value) {i d n:Nat} (h:i < l.length) (hd:d + n≤E.k):((flat E l++rest).drop (i * E.k + d)).take n = ((E.f l[i]).drop d).take n:=by
 have hl:(flat E (l.take i)).length = i * E.k:=by rw [flat_len,List.length_take,Nat.min_eq_left (Nat.le_of_lt h)]
 have hf:=E.len l[i]
 rw [flat_split E l i h,List.append_assoc,List.append_assoc,List.drop_append,List.drop_of_length_le (by omega),List.nil_append,hl,Nat.add_sub_cancel_left,List.drop_append,List.take_append_of_le_length (by rw [List.length_drop];omega)]
theorem flat_at {α:Type} (E:El α) (l:List α) (rest:List Value) {i:Nat} (h:i < l.length):((flat E l++rest).drop (i * E.k)).take E.k = E.f l[i]:=by
 have:=flat_sub E l rest (d:=0) (n:=E.k) h (by omega)
 rw [Nat.add_zero,List.drop_zero] at this
 rw [this,List.take_of_length_le (Nat.le_of_eq (E.len _))]
def RowH {α:Type} (E:El α) (t:TypeId) (p:Hp) (v:Value) (l:List α):Prop :=
 (v = .slice none 0 0∧l = [])∨∃ b c rest,v = .slice (some ⟨b,0,none⟩) l.length c∧p b = some (.cells (flat E l++rest).toArray t (0,0))∧rest.length = (c - l.length) * E.k∧l.length≤c∧c≤maxLen
theorem RowH.nil {α:Type} {E:El α} {t:TypeId} {p:Hp}:RowH E t p (.slice none 0 0) []:=.inl ⟨rfl,rfl⟩
theorem RowH.cells {α:Type} {E:El α} {p:Hp} {b:Nat} {l:List α} {rest:List Value} {t:TypeId} (h:p b = some (.cells (flat E l++rest).toArray t (0,0))) {off n:Nat} {cs:List Value} (hcs:((flat E l++rest).drop off).take n = cs) {G:Hp} {A:List Value→Prop} (hl:cs.length = n) (k:W (A cs)):RdhP p G b off n A :=
 ⟨cs,⟨hl, .inr ⟨_,t,h,hcs.symm⟩⟩,fun _=>k⟩
theorem RowH.slV {α:Type} {E:El α} {t:TypeId} {p G:Hp} {v:Value} {l:List α} (h:RowH E t p v l) (hp:∀ b o,p b = some o→G b = some o) (hn:l.length≤140737488355328):SlV E G v l:=by
 rcases h with ⟨rfl,rfl⟩ | ⟨b,c,rest,rfl,hb,hr,hc,hm⟩
 ·exact SlV.nil
 ·refine ⟨_,_,_,rfl,⟨rfl,hc,fun _=>rfl,fun i hi=>⟨E.f l[i],E.len _, ?_,rfl⟩⟩,hn⟩
  intro j u hj
  have hjk:j < E.k:=by have:=(List.getElem?_eq_some_iff.1 hj).1;rwa [E.len] at this
  have e:=flat_at E l rest hi
  have:(flat E l++rest)[i * E.k + j]? = some u:=by
   rw [← List.getElem?_drop, ← hj, ← e,List.getElem?_take,if_pos hjk]
  simp only [rd1,ab_some,ao_some,Nat.zero_add,hp _ _ hb]
  simpa using this
section
variable {α:Type} {E:El α} {t:TypeId} {p:Hp}
theorem take_flat {l:List α} {rest:List Value}:(flat E l++rest).take (l.length * E.k) = flat E l:=by
 rw [List.take_append_of_le_length (by rw [flat_len];exact Nat.le_refl _),List.take_of_length_le (by rw [flat_len];exact Nat.le_refl _)]
theorem RowH.appIn {b c:Nat} {l us:List α} {rest:List Value} (hr:rest.length = (c - l.length) * E.k) (hc:l.length + us.length≤c) (hm:c≤maxLen) :
  RowH E t (upd p b (some (.cells ((flat E l++rest).take (l.length * E.k)++flat E us++(flat E l++rest).drop ((l.length + us.length) * E.k)).toArray t (0,0)))) (.slice (some ⟨b,0,none⟩) (l.length + us.length) c) (l++us):=by
 refine .inr ⟨b,c,rest.drop (us.length * E.k),by rw [List.length_append], ?_, ?_,by rw [List.length_append];exact hc,hm⟩
 ·rw [upd_same,take_flat,flat_app]
  simp only [List.append_assoc]
  congr 5
  rw [List.drop_append,List.drop_of_length_le (by rw [flat_len,Nat.add_mul];omega),List.nil_append,flat_len,Nat.add_mul,Nat.add_sub_cancel_left]
 ·rw [List.length_drop,hr,List.length_append, ← Nat.sub_mul]
  congr 1
  omega
theorem RowH.appNew {b c:Nat} {l us:List α} {vs rest':List Value} (hv:vs = flat E l) (hr:rest'.length = (c - (l.length + us.length)) * E.k) (hc:l.length + us.length≤c) (hm:c≤maxLen) :
  RowH E t (upd p b (some (.cells (vs++flat E us++rest').toArray t (0,0)))) (.slice (some ⟨b,0,none⟩) (l.length + us.length) c) (l++us):=by
 subst hv
 refine .inr ⟨b,c,rest',by rw [List.length_append],by rw [upd_same,flat_app],by rw [hr,List.length_append],by rw [List.length_append];exact hc,hm⟩
theorem RowH.mono {v:Value} {l:List α} {q:Hp} (h:RowH E t p v l) (hk:∀ b o,blkOf v = some b→p b = some o→q b = some o):RowH E t q v l:=by
 rcases h with ⟨h1,h2⟩ | ⟨b,c,rest,rfl,hb,h⟩
 ·exact .inl ⟨h1,h2⟩
 ·exact .inr ⟨b,c,rest,rfl,hk _ _ rfl hb,h⟩
end
theorem RowH.typ {α:Type} {E:El α} {t:TypeId} {p:Hp} {v:Value} {l:List α} (h:RowH E t p v l) {b:Nat} {cs:Array Value} {t':TypeId} {x:Nat × Nat} (hb:blkOf v = some b) (e:p b = some (.cells cs t' x)):t' = t:=by
 rcases h with ⟨rfl,_⟩ | ⟨b',c,rest,rfl,h,_⟩
 ·cases hb
 ·cases hb
  rw [h] at e;cases e;rfl
theorem RowH.sl {α:Type} {E:El α} {t:TypeId} {p:Hp} {v:Value} {l:List α} (h:RowH E t p v l):∃ a c,v = .slice a l.length c:=by
 rcases h with ⟨rfl,rfl⟩ | ⟨b',c',rest,rfl,_⟩<;>exact ⟨_,_,rfl⟩
theorem RowH.off {α:Type} {E:El α} {t:TypeId} {p:Hp} {v:Value} {l:List α} (h:RowH E t p v l) {b:Nat} {o:Option Obj} (hb:blkOf v≠some b):RowH E t (upd p b o) v l :=
 h.mono fun k o' e1 e2=>by rw [upd_other _ _ (fun he=>hb (by rw [he] at e1;exact e1))];exact e2
end Go.Pal

namespace Go.Proofs.Ytpcpjmplgladmaa
open Go.Pal Go.RowKit
set_option maxRecDepth 100000
theorem body47:HasBody Try.prog 47:=hasBody_of (by kernel_rfl)
theorem body48:HasBody Try.prog 48:=hasBody_of (by kernel_rfl)
structure En where
 head:Int
 cols:List Int
def EnR (G:Hp) (cs:List Value) (w:En):Prop:=∃ h,cs = [I w.head,h]∧SlV intE G h w.cols
theorem EnR.uniq {G:Hp} {cs:List Value} {x y:En} (h:EnR G cs x) (h':EnR G cs y):x = y:=by
 obtain ⟨a,e,h1⟩:=h
 obtain ⟨b,e',h2⟩:=h'
 rw [e] at e'
 simp only [List.cons.injEq,Value.int.injEq,true_and,and_true] at e'
 obtain ⟨e1,e2⟩:=e'
 subst e2
 have:=h1.uniq h2
 cases x;cases y;simp_all
theorem EnR.grow {G G':Hp} (hg:Grow G G') {cs:List Value} {x:En} (h:EnR G cs x):EnR G' cs x:=by
 obtain ⟨a,e,h1⟩:=h
 exact ⟨a,e,h1.grow hg⟩
def EnsV (G:Hp) (v:Value) (ws:List En):Prop:=∃ a n c,v = .slice a n c∧SlR 2 EnR G a n c ws∧n≤140737488355328
theorem EnsV.grow {G G':Hp} (hg:Grow G G') {v:Value} {ws:List En} (h:EnsV G v ws):EnsV G' v ws:=by
 obtain ⟨a,n,c,e,h1,h2⟩:=h
 exact ⟨a,n,c,e,SlR.grow (fun _ _ h=>h.grow hg) h1 hg,h2⟩
abbrev REn:=Int × Option Addr × Nat × Nat
def enE:El REn:=⟨2,fun p=>[I p.1, .slice p.2.1 p.2.2.1 p.2.2.2],fun {x y} h=>by obtain ⟨_,_,_,_⟩:=x;obtain ⟨_,_,_,_⟩:=y;simp at h;simp [h],fun _=>rfl,fun _ v hv=>by simp at hv;rcases hv with rfl | rfl<;>rfl⟩
def rawEn (m:Int→Option Value) (h:Int):REn:=match m h with
 | some (.slice a n c)=>(h,a,n,c)
 | _=>(h,none,0,0)
def indexF (r:Rp) (x:Rx):List En:=(hdsF (colsF (rgOf r x))).map fun h=>⟨h,colsF (rgOf r x) h⟩
theorem addC_len (c:Int) (F:Cols) (h y:Int):(addC c F h y).length≤(F y).length + 1:=by
 unfold addC
 split
 ·omega
 ·dsimp only
  split
  ·rename_i e;subst e;simp
  ·omega
structure KOk (es:Array MapEntry) (ck:Nat) (m:Int→Option Value) (p:Hp) (F F0:Cols) (N:Nat):Prop where
 f:F = F0
 fi:FoundIs p m F
 sm:SMap es ck m
 rg:∀ h,F h≠[]→0≤h∧h≤99
 sz:es.size≤N
 ln:∀ h,(F h).length≤N
theorem pcK_mem (g:Rg):∀ i, ∀ e∈pcK g i,e.1 = -1∨∃ j:Nat,j < i∧e.1 = j
 | 0,e,h=>by simp [pcK] at h
 | i + 1,e,h=>by
  have ih:=pcK_mem g i e
  have up:(e.1 = -1∨∃ j:Nat,j < i∧e.1 = j)→(e.1 = -1∨∃ j:Nat,j < i + 1∧e.1 = j):=fun h=>h.imp id fun ⟨j,h1,h2⟩=>⟨j,by omega,h2⟩
  simp only [pcK] at h
  split at h
  ·split at h
   ·exact up (ih h)
   ·rcases List.mem_append.1 h with h | h
    ·exact up (ih h)
    ·simp at h;subst h;exact .inl rfl
  ·rcases List.mem_append.1 h with h | h
   ·exact up (ih h)
   ·simp at h;subst h;exact .inr ⟨i,by omega,rfl⟩
theorem putE_size (es:Array MapEntry) (ck:Nat) (kv vv:Value) (r:Option Nat):(putE es ck kv vv r).1.size≤es.size + 1:=by
 cases r<;>simp [putE]
theorem SlR.mapEn {G:Hp} {a:Option Addr} {n c:Nat} {raws:List REn} {ens:List En} (h:SlR 2 enE.R G a n c raws) (hl:ens.length = raws.length) (h2:∀ i (h1:i < raws.length) (h3:i < ens.length),EnR G (enE.f raws[i]) ens[i]):SlR 2 EnR G a n c ens:=by
 refine ⟨by rw [hl];exact h.len,h.cap,h.some,fun i hi=>?_⟩
 obtain ⟨cs,k1,k2,k3⟩:=h.at_ i (by omega)
 have k3:cs = enE.f _:=k3
 exact ⟨cs,k1,k2,by rw [k3];exact h2 i (by omega) hi⟩
theorem FoundIs.read {p:Hp} {m:Int→Option Value} {F:Cols} (H:FoundIs p m F) {G:Hp} (hG:∀ b o,p b = some o→G b = some o) {h:Int} (hm:m h≠none) (hb:(F h).length≤1000):EnR G (enE.f (rawEn m h)) ⟨h,F h⟩:=by
 obtain ⟨v,hv⟩:=Option.ne_none_iff_exists'.1 hm
 obtain ⟨b,cs,rfl,h1,h2,h3,h4⟩:=H.at_ h v hv
 refine ⟨.slice (some ⟨b,0,none⟩) (F h).length cs.length,by simp only [rawEn,hv];rfl,PubRow.slV (e:=intE) (vs:=(F h).map I) ⟨h2,fun _=>rfl,fun j v hj=>?_⟩ (mapI_flat _) rfl (by omega)⟩
 have hj2:=(List.getElem?_eq_some_iff.1 hj).1
 rw [List.length_map] at hj2
 show rd1 G b (0 + j) = _
 simp only [rd1,hG _ _ h1,Nat.zero_add]
 rw [← h4,List.getElem?_take,if_pos hj2] at hj
 simpa using hj
set_option maxHeartbeats 1000000 in
theorem index15:Sound Try.prog 15 id (grel (args2 rpRd rxRd fun _ _=>True) fun p v G=>∃ w,v = .tuple #[w,I (faultX p.1 p.2)]∧EnsV G w (if faultX p.1 p.2 = 0 then indexF p.1 p.2 else [])):=by
 refine comp15.grelH (Tab.cons 44 _ read44 body44 (Tab.cons 45 _ pieces45 body45 (Tab.nil _))) (ok2 _ _ _) (fun args G s h=>?_) (fun x v G G' hg ⟨w,h1,h2⟩=>⟨w,h1,h2.grow hg⟩) (fun args G p h=>?_)
 ·obtain ⟨v,w,rfl,_⟩:=h;simp
 ·obtain ⟨r,x⟩:=p
  obtain ⟨u,v,rfl,hr,hx,_⟩:=h
  dsimp only at hr hx
  obtain ⟨rw_,ro,rfl,hrc⟩:=id hr
  obtain ⟨m,rfl,hm⟩:=id hx
  obtain ⟨oa,on,oc,rfl,ho1,ho2⟩:=id hrc.o
  obtain ⟨wa,wn,wc,rfl,hw1,hw2⟩:=id hrc.w
  obtain ⟨ma,mn,mc,rfl,hm1,hm2⟩:=id hm
  (conv=>whnf)
  refine CallH.mk _ read44 body44 (W.mk ?_)
  (conv=>whnf)
  refine RelP.g (ok2 rpRd rxRd fun _ _=>True) (x:=(r,x)) ⟨_,_,rfl,hr,hx,trivial⟩ (Grow.refl _) (fun v G1 hg1 hq=>W.mk ?_)
  obtain ⟨gwa,gwn,gwc,goa,gon,goc,gma,gmn,gmc,gc,gy,gp,rfl,hq⟩:=hq
  dsimp only at hq
  dsimp only
  (conv=>whnf)
  refine IteP.mk (fun h1=>W.mk ?_) (fun h1=>W.mk ?_)<;>(conv=>whnf)
  rotate_left
  ·have h1:¬ faultX r x = 0:=h1
   refine PubAnyP.mk ⟨[],W.mk ?_⟩
   (conv=>whnf)
   refine FinP.mk ⟨_,rfl, ?_⟩
   rw [if_neg h1]
   exact ⟨none,0,0,rfl,⟨rfl,Nat.le_refl _,fun h=>absurd rfl h,fun i hi=>by simp at hi⟩,Nat.zero_le _⟩
  have h1:faultX r x = 0:=h1
  obtain ⟨rfl,rfl,rfl,hgc⟩:=hq h1
  have hfine:=rgFine h1
  have hfn:=(faultX_fine h1).1
  have hlen:=pcF_len (rgOf r x)
  have hwl:=hfine.wl
  refine MapP.keep (W.mk ?_)
  (conv=>whnf)
  refine CallH.mk _ pieces45 body45 (W.mk ?_)
  (conv=>whnf)
  refine RelP.g (ok1 rgRd fun _=>True) (x:=rgOf r x) ⟨_,rfl,⟨_,_,_,rfl,hgc⟩,trivial⟩ (Grow.refl _) (fun v G2 hg2 hq2=>W.mk ?_)
  obtain ⟨b,rfl,hrb⟩:=hq2
  have hgc2:=hgc.grow hg2
  (conv=>whnf)
  refine RangeP.of ((pcF (rgOf r x)).map pcV) { α:=Nat × Array MapEntry × Nat × (Int→Option Value) × Hp × Cols,fr:=[(6, .c (.ptr 11 0)),(8, .c (.ptr 20 0))],k:=fun y=>y.1,H:=fun y=>[(0, .heap y.2.2.2.2.1),(11, .cells .anon ((rgl (.slice gwa gwn gwc) (.slice goa gon goc) (.slice gma gmn gmc) r.cols x.year (rgOf r x).p).map .val) 97),(19, .map .anon y.2.1 y.2.2.1),(20, .cells .anon [.mref 19] 100)],ok:=fun y _=>y.1≤(pcF (rgOf r x)).length∧KOk y.2.1 y.2.2.1 y.2.2.2.1 y.2.2.2.2.1 y.2.2.2.2.2 (((pcF (rgOf r x)).take y.1).foldl (stepC (rgOf r x)) fun _=>[]) (5 * y.1) }
   (0, #[],0,fun _=>none,fun _=>none,fun _=>[]) (SoundFn.of body70 (pieces70 b (rgOf r x))) (fun l=>⟨rfl,hrb,hfine,rfl⟩) (fun y hy=>by obtain ⟨p,_,rfl⟩:=List.mem_map.1 hy;rfl) rfl (HeadP.of [] ⟨rfl,rfl,trivial⟩ ⟨rfl,rfl,rfl,rfl,trivial⟩) ⟨Nat.zero_le _,rfl,FoundIs.nil,SMap.nil,fun h h'=>absurd rfl h',Nat.le_refl _,fun h=>Nat.le_refl _⟩ ⟨rfl,fun _=>rfl⟩ (fun _ _ _ _ h=>h)
   (fun y e G3 hg3 hk he=>W.mk ?_) (fun y G3 hg3 hk hke=>W.mk ?_)
  ·obtain ⟨k,es,ck,m,p,F⟩:=y
   obtain ⟨hkl,hok⟩:=hk
   dsimp only at hkl hok he
   rw [List.getElem?_map] at he
   obtain ⟨e,he2,rfl⟩:=Option.map_eq_some_iff.1 he
   have hlt:=(List.getElem?_eq_some_iff.1 he2).1
   have htkO:=take_snoc he2
   obtain ⟨sh,tx,cl⟩:=e
   dsimp only [pcV]
   (conv=>whnf)
   refine IteP.mk (fun hs=>W.mk ?_) (fun hs=>W.mk ?_)<;>(conv=>whnf)
   ·have hs:sh = -1:=hs
    refine RoundR.of (k + 1,es,ck,m,p,F) [] ⟨rfl,rfl,rfl,rfl,trivial⟩ ⟨Nat.succ_le_of_lt hlt, ?_⟩ rfl
    dsimp only
    rw [htkO,List.foldl_append]
    have hst:∀ F0,[(sh,(⟨tx,cl⟩:Pc))].foldl (stepC (rgOf r x)) F0 = F0:=fun F0=>by simp only [List.foldl_cons,List.foldl_nil,stepC,if_pos hs]
    rw [hst]
    exact ⟨hok.f,hok.fi,hok.sm,hok.rg,(by have:=hok.sz;show es.size≤_;omega),fun h=>(by have:=hok.ln h;show (F h).length≤_;omega)⟩
   have hs:¬ sh = -1:=hs
   obtain ⟨i,hi,rfl⟩:∃ i:Nat,i < r.words.length∧sh = i:=(pcK_mem (rgOf r x) _ _ (List.mem_of_getElem? he2)).elim (fun h=>absurd h hs) id
   obtain ⟨_,_,_,q1,hw1,hw2⟩:=(hgc2.grow hg3).rp.w
   cases q1
   have hwn:=hw1.len
   have hwn:r.words.length = gwn:=hwn
   obtain ⟨cs,_,hcs,hv,rfl,ha,hn,hcc,rfl,hh1,hh2⟩:=SlR.cells hw1 hi
   have hgd:(rgOf r x).r.words.getD i ⟨noText,[]⟩ = r.words[i]:=by simp [rgOf,hi]
   have hwf:=hfn.w _ (List.getElem_mem hi)
   have hcs:CellsAt G3 (ab gwa) (ao gwa + i * 2) [.string r.words[i].text, .slice ha hn hcc]:=hcs
   have hh1:SlR intE.k intE.R G3 ha hn hcc r.words[i].heads:=hh1
   have hst:∀ F0,[((i:Int),(⟨tx,cl⟩:Pc))].foldl (stepC (rgOf r x)) F0 = r.words[i].heads.foldl (addC cl) F0:=fun F0=>by
    simp only [List.foldl_cons,List.foldl_nil,stepC,if_neg hs,Int.toNat_natCast,hgd]
   generalize r.words[i] = wd at hcs hh1 hst hwf
   have hhn:=hh1.len
   have hrm:=ris_mem hwf.2.2.2.1
   repeat' (first | (refine ob ?_ ?_;(first | trivial | omega | (simp only [inR];omega) | exact ble (by rfl) | exact SlR.some ‹_› (by omega));(conv=>whnf)) | (refine RdhP.g ‹_› (by rfl) (W.mk ?_);(conv=>whnf)) | (refine RdhP.g (CellsAt.drop (d:=1) (n:=1) ‹_›) (by rfl) (W.mk ?_);(conv=>whnf)) | (first | (refine ra ‹_› (by rfl) ?_;(conv=>whnf)) | (refine rb ‹_› (by rfl) ?_;(conv=>whnf)) | (refine rc ‹_› (by rfl) ?_;(conv=>whnf)) | (refine rd ‹_› (by rfl) ?_;(conv=>whnf))))
   have hok0:=hok
   refine LoopP.of { α:=Nat × Array MapEntry × Nat × (Int→Option Value) × Hp × Cols,fr:=fun y=>[(6, .c (.ptr 11 0)),(8, .c (.ptr 20 0)),(10, .c (.ptr 25 0)),(38, .v (.slice ha hn hcc)),(39, .v (I hn)),(40, .v (I y.1))],H:=fun y=>[(0, .heap y.2.2.2.2.1),(11, .cells .anon ((rgl (.slice gwa gwn gwc) (.slice goa gon goc) (.slice gma gmn gmc) r.cols x.year (rgOf r x).p).map .val) 97),(19, .map .anon y.2.1 y.2.2.1),(20, .cells .anon [.mref 19] 100),(25, .cells .anon [.val (.string tx), .val (I cl)] 79)],ok:=fun y _=>y.1≤hn∧KOk y.2.1 y.2.2.1 y.2.2.2.1 y.2.2.2.2.1 y.2.2.2.2.2 ((wd.heads.take y.1).foldl (addC cl) (((pcF (rgOf r x)).take k).foldl (stepC (rgOf r x)) fun _=>[])) (5 * k + y.1),m:=fun y=>hn - y.1 }
    (0,es,ck,m,p,F) (HeadP.of [] ⟨rfl,rfl,rfl,rfl,rfl,rfl,trivial⟩ ⟨rfl,rfl,rfl,rfl,rfl,trivial⟩) ⟨Nat.zero_le _,hok⟩ (fun _=>⟨rfl,rfl⟩) (fun y G4 hg4 hx=>W.mk ?_)
   clear hok
   obtain ⟨j,es,ck,m,p,F⟩:=y
   obtain ⟨hj,hok⟩:=hx
   dsimp only at hj hok
   have hh4:SlR intE.k intE.R G4 ha hn hcc wd.heads:=SlR.grow (G:=G3) (G':=G4) (fun _ _ h=>h) hh1 hg4
   dsimp only
   (conv=>whnf)
   refine IteP.mk (fun hlt=>W.mk ?_) (fun hge=>W.mk ?_)<;>(conv=>whnf)
   ·have hlj:j < wd.heads.length:=by omega
    have hc:=hh4.el hlj
    have hdr:=hrm _ (List.getElem_mem hlj)
    have htk:=take_snoc (List.getElem?_eq_getElem hlj)
    generalize wd.heads[j] = hd at hc hdr htk
    repeat' (first | (refine ob ?_ ?_;(first | trivial | omega | (simp only [inR];omega) | exact ble (by rfl) | exact SlR.some ‹_› (by omega));(conv=>whnf)) | (refine RdhP.g ‹_› (by rfl) (W.mk ?_);(conv=>whnf)) | (refine RdhP.g (CellsAt.drop (d:=1) (n:=1) ‹_›) (by rfl) (W.mk ?_);(conv=>whnf)) | (first | (refine ra ‹_› (by rfl) ?_;(conv=>whnf)) | (refine rb ‹_› (by rfl) ?_;(conv=>whnf)) | (refine rc ‹_› (by rfl) ?_;(conv=>whnf)) | (refine rd ‹_› (by rfl) ?_;(conv=>whnf))))
    obtain ⟨kr,f1,f2,f3⟩:=hok.sm.find (x:=hd) (by simp only [inR];omega)
    refine KeyP.mk ⟨_,f1,W.mk ?_⟩
    dsimp only
    rw [f2]
    have hf0:=hok.fi.no hd
    have hfs:=hok.fi.at_ hd
    cases hm:m hd with
    | none =>
     have hF0:F hd = []:=hf0.1 hm
     dsimp only [lookD]
     (conv=>whnf)
     refine CallH.mk _ con46 body46 (W.mk ?_)
     (conv=>whnf)
     refine ScaP.g (ok2 (slRd intE) intRd fun _ _=>True) (x:=(([]:List Int),cl)) ⟨_,_,rfl,SlV.nil,rfl,trivial⟩ (fun v hv=>W.mk ?_)
     subst hv
     dsimp only
     (conv=>whnf)
     refine ForkP.mk (fun hq=>W.mk ?_) (fun hq=>W.mk ?_)<;>(conv=>whnf)
     ·cases hq
     refine DrawP.mk monoT_nil rfl (W.mk ?_)
     (conv=>whnf)
     refine KeyP.mk ⟨_,f1,W.mk ?_⟩
     dsimp only
     rw [f2,hm]
     dsimp only [lookD]
     (conv=>whnf)
     have hct:(F hd).contains cl = false:=by rw [hF0];rfl
     repeat' (first | (refine OblP.mk rfl (W.mk ?_);(conv=>whnf)) | (refine OblP.mk ⟨by omega,by omega⟩ (W.mk ?_);(conv=>whnf)) | (refine ob ?_ ?_;(first | trivial | omega | (simp only [inR];omega) | exact ble (by rfl) | exact SlR.some ‹_› (by omega));(conv=>whnf)) | (refine RdhP.g ‹_› (by rfl) (W.mk ?_);(conv=>whnf)) | (refine RdhP.g (CellsAt.drop (d:=1) (n:=1) ‹_›) (by rfl) (W.mk ?_);(conv=>whnf)) | (first | (refine ra ‹_› (by rfl) ?_;(conv=>whnf)) | (refine rb ‹_› (by rfl) ?_;(conv=>whnf)) | (refine rc ‹_› (by rfl) ?_;(conv=>whnf)) | (refine rd ‹_› (by rfl) ?_;(conv=>whnf))))
     refine AppnP.mk (fun b2 cap rest g1 g2 g3 g4=>W.mk ?_)
     have hfi:=FoundIs.put hok.fi (x:=hd) (c:=cl) (b:=b2) (cs:=[I cl]++rest) hct (.inl g1) (by rw [hF0];simp) (by simp;omega) (by rw [hF0];rfl)
     rw [show ([I cl]++rest).length = cap by simp;omega] at hfi
     have hfi:FoundIs (upd p b2 (some (.cells ([I cl]++rest).toArray 3 (0,0)))) (fun y=>if y = hd then some (.slice (some ⟨b2,0,none⟩) 1 cap) else m y) (addC cl F hd):=by
      rw [show (F hd).length + 1 = 1 by rw [hF0];rfl] at hfi;exact hfi
     (conv=>whnf)
     refine KeyP.mk ⟨_,f1,W.mk ?_⟩
     (conv=>whnf)
     (refine ob ?_ ?_;(first | trivial | omega | (simp only [inR];omega) | exact ble (by rfl) | exact SlR.some ‹_› (by omega));(conv=>whnf))
     refine RoundP.of (j + 1,_,_,(fun y=>if y = hd then some (.slice (some ⟨b2,0,none⟩) 1 cap) else m y),_,addC cl F hd) (HeadP.of [] ⟨rfl,rfl,rfl,rfl,rfl,rfl,trivial⟩ ⟨rfl,rfl,rfl,rfl,rfl,trivial⟩) ⟨by show j + 1≤hn;omega, ?_⟩ (by simp only;omega)
     dsimp only
     rw [htk,List.foldl_append]
     refine ⟨?_,hfi,f3 _,addC_rng hok.rg hdr, ?_,fun y=>?_⟩
     ·show addC cl F hd = addC cl _ hd
      rw [← hok.f]
     ·have h1:=hok.sz
      have h2:=putE_size es ck (I hd) (.slice (some ⟨b2,0,none⟩) 1 cap) kr
      show (putE es ck (I hd) (.slice (some ⟨b2,0,none⟩) 1 cap) kr).1.size≤_
      omega
     ·have h1:=hok.ln y
      have h2:=addC_len cl F hd y
      show (addC cl F hd y).length≤_
      omega
    | some v =>
     obtain ⟨b2,cs,rfl,hpb,hle,hmx,htake⟩:=hfs v hm
     dsimp only [lookD]
     (conv=>whnf)
     have hall:(F hd).map I++cs.drop (F hd).length = cs:=by rw [← htake,List.take_append_drop]
     have hone:LB.one (.row (F hd).length (F hd).length cs.length ((F hd).map I) (cs.drop (F hd).length) 3 1):=⟨Nat.le_refl _,by simp,by simp,hle,hmx,fun v hv=>by obtain ⟨x,_,rfl⟩:=List.mem_map.1 hv;rfl⟩
     have hlnb:=hok.ln hd
     have hbig:(F hd).length≤140737488355328:=by omega
     refine CallH.mk _ (Sound.lendS con46 (fun v=>v = .bool ((F hd).contains cl))) body46 (W.mk ?_)
     (conv=>whnf)
     have hS:SlV intE (joinL G4 [⟨b2,false, .row (F hd).length (F hd).length cs.length ((F hd).map I) (cs.drop (F hd).length) 3 1⟩]) (.slice (some ⟨b2,0,none⟩) (F hd).length cs.length) (F hd):=joinL_rowI rfl hle hbig
     refine StP.mk ⟨[(0,⟨b2,false, .row (F hd).length (F hd).length cs.length ((F hd).map I) (cs.drop (F hd).length) 3 1⟩)],⟨⟨rfl,by rw [hall];exact hpb,hone⟩,trivial⟩,by simp,⟨fun x hx=>by simp at hx;subst hx;rfl,fun _=>⟨⟨(F hd,cl),_,_,rfl,hS,rfl,trivial⟩,fun v ⟨y,hy,e⟩=>?_⟩⟩,fun v ns G5 hg5 hpost=>W.mk ?_⟩
     ·have:y = (F hd,cl):=(ok2 (slRd intE) intRd fun _ _=>True).uniq _ _ _ _ hy ⟨_,_,rfl,hS,rfl,trivial⟩
      subst this;exact e
     obtain ⟨_,rfl⟩:=hpost
     (conv=>whnf)
     refine ForkP.mk (fun hct=>W.mk ?_) (fun hct=>W.mk ?_)<;>(conv=>whnf)
     ·have hct:(F hd).contains cl = true:=hct
      (refine ob ?_ ?_;(first | trivial | omega | (simp only [inR];omega) | exact ble (by rfl) | exact SlR.some ‹_› (by omega));(conv=>whnf))
      refine RoundP.of (j + 1,es,ck,m,p,F) (HeadP.of [] ⟨rfl,rfl,rfl,rfl,rfl,rfl,trivial⟩ ⟨rfl,rfl,rfl,rfl,rfl,trivial⟩) ⟨by show j + 1≤hn;omega, ?_⟩ (by simp only;omega)
      dsimp only
      rw [htk,List.foldl_append]
      refine ⟨?_,hok.fi,hok.sm,hok.rg,(by have:=hok.sz;show es.size≤_;omega),fun y=>(by have:=hok.ln y;show (F y).length≤_;omega)⟩
      show F = addC cl _ hd
      rw [← hok.f]
      exact (if_pos hct).symm
     have hct:(F hd).contains cl = false:=hct
     refine DrawP.mk monoT_nil rfl (W.mk ?_)
     (conv=>whnf)
     refine KeyP.mk ⟨_,f1,W.mk ?_⟩
     dsimp only
     rw [f2,hm]
     dsimp only [lookD]
     (conv=>whnf)
     repeat' (first | (refine OblP.mk rfl (W.mk ?_);(conv=>whnf)) | (refine ob ?_ ?_;(first | trivial | omega | (simp only [inR];omega) | exact ble (by rfl) | exact SlR.some ‹_› (by omega));(conv=>whnf)) | (refine RdhP.g ‹_› (by rfl) (W.mk ?_);(conv=>whnf)) | (refine RdhP.g (CellsAt.drop (d:=1) (n:=1) ‹_›) (by rfl) (W.mk ?_);(conv=>whnf)) | (first | (refine ra ‹_› (by rfl) ?_;(conv=>whnf)) | (refine rb ‹_› (by rfl) ?_;(conv=>whnf)) | (refine rc ‹_› (by rfl) ?_;(conv=>whnf)) | (refine rd ‹_› (by rfl) ?_;(conv=>whnf))))
     refine HpkP.mk ⟨cs,3,hpb,W.mk ?_⟩
     (conv=>whnf)
     refine OblP.mk ⟨rfl,rfl,by simp,hle,hmx,fun u hu=>?_⟩ (W.mk ?_)
     ·rw [Nat.mul_one,htake] at hu
      obtain ⟨x,_,rfl⟩:=List.mem_map.1 hu;rfl
     (conv=>whnf)
     refine OblP.mk rfl (W.mk ?_)
     (conv=>whnf)
     refine OblP.mk ⟨by omega,by omega⟩ (W.mk ?_)
     (conv=>whnf)
     have htk1:cs.take ((F hd).length * 1) = (F hd).map I:=by rw [Nat.mul_one];exact htake
     refine IteP.mk (fun hfit=>W.mk ?_) (fun hfit=>W.mk ?_)<;>(conv=>whnf)
     ·have hfit:(F hd).length + 1≤cs.length:=by omega
      have hl2:(cs.take ((F hd).length * 1)++[I cl]++cs.drop (((F hd).length + 1) * 1)).length = cs.length:=by simp;omega
      have hfi:=FoundIs.put hok.fi (x:=hd) (c:=cl) (b:=b2) (cs:=cs.take ((F hd).length * 1)++[I cl]++cs.drop (((F hd).length + 1) * 1)) hct (.inr ⟨_,_,hm⟩) (by rw [hl2];exact hfit) (by rw [hl2];exact hmx) (by rw [htk1,List.take_append_of_le_length (by simp),List.take_of_length_le (by simp)];simp)
      rw [hl2] at hfi
      refine KeyP.mk ⟨_,f1,W.mk ?_⟩
      (conv=>whnf)
      (refine ob ?_ ?_;(first | trivial | omega | (simp only [inR];omega) | exact ble (by rfl) | exact SlR.some ‹_› (by omega));(conv=>whnf))
      refine RoundP.of (j + 1,_,_,(fun y=>if y = hd then some (.slice (some ⟨b2,0,none⟩) ((F hd).length + 1) cs.length) else m y),_,addC cl F hd) (HeadP.of [] ⟨rfl,rfl,rfl,rfl,rfl,rfl,trivial⟩ ⟨rfl,rfl,rfl,rfl,rfl,trivial⟩) ⟨by show j + 1≤hn;omega, ?_⟩ (by simp only;omega)
      dsimp only
      rw [htk,List.foldl_append]
      refine ⟨?_,hfi,f3 _,addC_rng hok.rg hdr, ?_,fun y=>?_⟩
      ·show addC cl F hd = addC cl _ hd
       rw [← hok.f]
      ·have h1:=hok.sz
       have h2:=putE_size es ck (I hd) (.slice (some ⟨b2,0,none⟩) ((F hd).length + 1) cs.length) kr
       show (putE es ck (I hd) (.slice (some ⟨b2,0,none⟩) ((F hd).length + 1) cs.length) kr).1.size≤_
       omega
      ·have h1:=hok.ln y
       have h2:=addC_len cl F hd y
       show (addC cl F hd y).length≤_
       omega
     ·refine AppnP.mk (fun b3 cap rest g1 g2 g3 g4=>W.mk ?_)
      have hl2:(cs.take ((F hd).length * 1)++[I cl]++rest).length = cap:=by simp;omega
      have hfi:=FoundIs.put hok.fi (x:=hd) (c:=cl) (b:=b3) (cs:=cs.take ((F hd).length * 1)++[I cl]++rest) hct (.inl g1) (by rw [hl2];exact g2) (by rw [hl2];exact g3) (by rw [htk1,List.take_append_of_le_length (by simp),List.take_of_length_le (by simp)];simp)
      rw [hl2] at hfi
      (conv=>whnf)
      refine KeyP.mk ⟨_,f1,W.mk ?_⟩
      (conv=>whnf)
      (refine ob ?_ ?_;(first | trivial | omega | (simp only [inR];omega) | exact ble (by rfl) | exact SlR.some ‹_› (by omega));(conv=>whnf))
      refine RoundP.of (j + 1,_,_,(fun y=>if y = hd then some (.slice (some ⟨b3,0,none⟩) ((F hd).length + 1) cap) else m y),_,addC cl F hd) (HeadP.of [] ⟨rfl,rfl,rfl,rfl,rfl,rfl,trivial⟩ ⟨rfl,rfl,rfl,rfl,rfl,trivial⟩) ⟨by show j + 1≤hn;omega, ?_⟩ (by simp only;omega)
      dsimp only
      rw [htk,List.foldl_append]
      refine ⟨?_,hfi,f3 _,addC_rng hok.rg hdr, ?_,fun y=>?_⟩
      ·show addC cl F hd = addC cl _ hd
       rw [← hok.f]
      ·have h1:=hok.sz
       have h2:=putE_size es ck (I hd) (.slice (some ⟨b3,0,none⟩) ((F hd).length + 1) cap) kr
       show (putE es ck (I hd) (.slice (some ⟨b3,0,none⟩) ((F hd).length + 1) cap) kr).1.size≤_
       omega
      ·have h1:=hok.ln y
       have h2:=addC_len cl F hd y
       show (addC cl F hd y).length≤_
       omega
   ·have hje:j = wd.heads.length:=by omega
    subst hje
    rw [List.take_length] at hok
    refine RoundR.of (k + 1,es,ck,m,p,F) [] ⟨rfl,rfl,rfl,rfl,trivial⟩ ⟨Nat.succ_le_of_lt hlt, ?_⟩ rfl
    dsimp only
    rw [htkO,List.foldl_append,hst]
    have h5:=hwf.1
    exact ⟨hok.f,hok.fi,hok.sm,hok.rg,(by have:=hok.sz;show es.size≤_;omega),fun h=>(by have:=hok.ln h;show (F h).length≤_;omega)⟩
  ·obtain ⟨k,es,ck,m,p,F⟩:=y
   obtain ⟨hkl,hok⟩:=hk
   dsimp only at hkl hok hke
   rw [List.length_map] at hke
   subst hke
   rw [List.take_length] at hok
   have hFF:F = colsF (rgOf r x):=hok.f
   have hszz:=hok.sz
   dsimp only
   (conv=>whnf)
   refine NameP.mk (fun mb=>W.mk ?_)
   (conv=>whnf)
   refine CallH.mk _ (keys48 mb) body48 (W.mk ?_)
   (conv=>whnf)
   refine RelP.mk rfl (fun v G5 hg5 hq=>W.mk ?_)
   obtain ⟨cb,rfl,hcb⟩:=hq
   (conv=>whnf)
   refine CallH.mk _ (sorted47 cb mb hok.sm (by omega)) body47 (W.mk ?_)
   (conv=>whnf)
   refine StP.mk ⟨[(19,⟨mb,false, .map es ck⟩)],⟨rfl,trivial⟩,by simp,⟨rfl,hcb,rfl⟩,fun v ns G6 hg6 hpost=>W.mk ?_⟩
   obtain ⟨rfl,ka,kn,kc,ss,rfl,hks,hkl2,hasc⟩:=hpost
   have hss:=hds_asc hasc hok.fi.no hok.rg
   have hsl:ss.length≤100:=by
    rw [hss,hdsF]
    exact Nat.le_trans (List.length_filter_le _ _) (by simp)
   have hkv:SlR intE.k intE.R G6 ka kn kc ss:=hks.sl (mapI_flat _) hkl2
   (conv=>whnf)
   refine LoopP.of { α:=Nat × List Value,fr:=fun y=>[(8, .c (.ptr 20 0)),(13, .c (.row 1 y.1)),(63, .v (.slice ka kn kc)),(64, .v (I kn)),(65, .v (I y.1))],H:=fun y=>[(0, .heap p),(19, .map (.named mb) es ck),(20, .cells .anon [.mref 19] 100),(1, .row none y.1 y.2 47 2)],ok:=fun y _=>y.1≤kn∧Row enE ((ss.take y.1).map (rawEn m)) y.1 y.2,m:=fun y=>kn - y.1 }
    (0,[]) (HeadP.of [(1,none)] ⟨rfl,rfl,rfl,rfl,rfl,trivial⟩ ⟨rfl,rfl,rfl,rfl,trivial⟩) ⟨Nat.zero_le _,Row.nil⟩ (fun _=>⟨rfl,rfl⟩) (fun y G7 hg7 hx=>W.mk ?_)
   obtain ⟨i,vs⟩:=y
   obtain ⟨hi,hrow⟩:=hx
   dsimp only at hi hrow
   have hkv7:SlR intE.k intE.R G7 ka kn kc ss:=SlR.grow (G:=G6) (G':=G7) (fun _ _ h=>h) hkv hg7
   dsimp only
   (conv=>whnf)
   refine IteP.mk (fun hlt=>W.mk ?_) (fun hge=>W.mk ?_)<;>(conv=>whnf)
   ·have hlt:i < ss.length:=by omega
    have hc:=hkv7.el hlt
    have hmem:=(hasc.mem ss[i]).1 (List.getElem_mem hlt)
    have htk:=take_snoc (List.getElem?_eq_getElem hlt)
    generalize ss[i] = hd at hc hmem htk
    have hdr:=hok.rg hd (fun e=>hmem ((hok.fi.no hd).2 e))
    repeat' (first | (refine ob ?_ ?_;(first | trivial | omega | (simp only [inR];omega) | exact ble (by rfl) | exact SlR.some ‹_› (by omega));(conv=>whnf)) | (refine RdhP.g ‹_› (by rfl) (W.mk ?_);(conv=>whnf)) | (refine RdhP.g (CellsAt.drop (d:=1) (n:=1) ‹_›) (by rfl) (W.mk ?_);(conv=>whnf)) | (first | (refine ra ‹_› (by rfl) ?_;(conv=>whnf)) | (refine rb ‹_› (by rfl) ?_;(conv=>whnf)) | (refine rc ‹_› (by rfl) ?_;(conv=>whnf)) | (refine rd ‹_› (by rfl) ?_;(conv=>whnf))))
    obtain ⟨kr,f1,f2,f3⟩:=hok.sm.find (x:=hd) (by simp only [inR];omega)
    refine KeyP.mk ⟨_,f1,W.mk ?_⟩
    obtain ⟨v,hm2⟩:=Option.ne_none_iff_exists'.1 hmem
    obtain ⟨b2,cs,rfl,hpb,hle,hmx,htake⟩:=hok.fi.at_ hd v hm2
    dsimp only
    rw [f2,hm2]
    dsimp only [lookD]
    (conv=>whnf)
    repeat' (first | (refine OblP.mk rfl (W.mk ?_);(conv=>whnf)) | (refine ob ?_ ?_;(first | trivial | omega | (simp only [inR];omega) | exact ble (by rfl) | exact SlR.some ‹_› (by omega));(conv=>whnf)) | (refine RdhP.g ‹_› (by rfl) (W.mk ?_);(conv=>whnf)) | (refine RdhP.g (CellsAt.drop (d:=1) (n:=1) ‹_›) (by rfl) (W.mk ?_);(conv=>whnf)) | (first | (refine ra ‹_› (by rfl) ?_;(conv=>whnf)) | (refine rb ‹_› (by rfl) ?_;(conv=>whnf)) | (refine rc ‹_› (by rfl) ?_;(conv=>whnf)) | (refine rd ‹_› (by rfl) ?_;(conv=>whnf))))
    refine RoundP.of (i + 1,vs++[I hd, .slice (some ⟨b2,0,none⟩) (F hd).length cs.length]) (HeadP.of [(1,some 78)] ⟨rfl,rfl,rfl,rfl,rfl,trivial⟩ ⟨rfl,rfl,rfl,rfl,trivial⟩) ⟨by show i + 1≤kn;omega, ?_⟩ (by simp only;omega)
    dsimp only
    rw [htk,List.map_append]
    exact hrow.snoc (rawEn m hd) (by simp only [rawEn,hm2];rfl)
   ·have hie:i = ss.length:=by omega
    subst hie
    rw [List.take_length] at hrow
    refine PubAnyP.mk ⟨[0],fun G8 hg8 hp8=>W.mk ?_⟩
    (conv=>whnf)
    refine PubP.mk (fun a1 c1 G9 hg9 hp=>W.mk ?_)
    (conv=>whnf)
    refine FinP.mk ⟨_,(by show Value.tuple #[_,I 0] = .tuple #[_,I (faultX r x)];rw [h1]), ?_⟩
    rw [if_pos h1]
    obtain ⟨_,_,_,q1,q2,q3⟩:=hrow.pub hp (by omega)
    cases q1
    refine ⟨_,_,_,rfl,SlR.mapEn q2 (by rw [indexF, ← hFF, ← hss];simp) fun i k1 k2=>?_,q3⟩
    have k3:i < ss.length:=by simpa using k1
    have e1:(indexF r x)[i] = ⟨ss[i],F ss[i]⟩:=by simp only [indexF, ← hFF, ← hss,List.getElem_map]
    have e2:(ss.map (rawEn m))[i] = rawEn m ss[i]:=by simp
    rw [e1,e2]
    exact hok.fi.read (fun b o h=>hg9 _ _ (hp8 b o h)) ((hasc.mem _).1 (List.getElem_mem k3)) (by have:=hok.ln ss[i];omega)
end Go.Proofs.Ytpcpjmplgladmaa

namespace Go.Proofs.Ytpcpjmplgladmaa
open Go.Pal
set_option maxRecDepth 100000
def unitRd:GRel Unit:=fun args _ _=>args = []
theorem okU:GOk unitRd:=⟨fun _ _ _ _ _ _=>rfl,fun _ _ _ _ _ h=>h⟩
theorem SlR.conv {α β:Type} {k:Nat} {R:Hp→List Value→α→Prop} {R':Hp→List Value→β→Prop} {G:Hp} {a:Option Addr} {n c:Nat} {l:List α} {l':List β} (h:SlR k R G a n c l) (hl:l'.length = l.length) (hc:∀ i (h1:i < l.length) (h2:i < l'.length) cs,R G cs l[i]→R' G cs l'[i]):SlR k R' G a n c l':=by
 refine ⟨by rw [hl];exact h.len,h.cap,h.some,fun i hi=>?_⟩
 obtain ⟨cs,k1,k2,k3⟩:=h.at_ i (by omega)
 exact ⟨cs,k1,k2,hc i (by omega) hi cs k3⟩
theorem list27:Sound Try.prog 27 id (grel (args1 (slRd intE) fun l=>l.length≤1000) fun l v G=>SlV intE G v l):=by
 refine comp27.grel (Tab.nil _) (ok1 _ _) (fun args G s h=>?_) (fun x v G G' hg h=>h.grow hg) (fun args G l h=>?_)
 ·obtain ⟨v,rfl,_⟩:=h;simp
 ·obtain ⟨v,rfl,⟨a,n,c,rfl,hl,hn⟩,hb⟩:=h
  obtain ⟨h1,h2,h3⟩:=hl.all
  have hlen:=hl.len
  (conv=>whnf)
  refine OblP.mk (fun h=>hl.some h) (W.mk ?_);(conv=>whnf)
  refine RdP.at h1 h2 (W.mk ?_);(conv=>whnf)
  refine OblP.mk h3 (W.mk ?_);(conv=>whnf)
  refine OblP.mk rfl (W.mk ?_);(conv=>whnf)
  refine OblP.mk (by omega) (W.mk ?_);(conv=>whnf)
  refine PubP.mk (fun a1 c1 G1 hg1 hp=>W.mk ?_)
  (conv=>whnf)
  refine FinP.mk ?_
  simp only [Nat.zero_add,List.nil_append] at hp ⊢
  exact (Row.of_all l hlen).pub hp (by omega)
def inV (args:List Value):Value:=match args with
 | [y,m]=>.agg #[y,m]
 | _=>undef
theorem in43:Sound Try.prog 43 id (.fn (fun args _=>∃ y a n c,args = [I y, .slice a n c]) inV):=by
 refine comp43.fn (Tab.nil _) (fun args G h=>?_) (fun args G h=>?_)
 ·obtain ⟨y,a,n,c,rfl⟩:=h;simp
 ·obtain ⟨y,a,n,c,rfl⟩:=h
  (conv=>whnf)
  exact FinP.mk rfl
def tx (l:List UInt8):ByteArray:=⟨l.toArray⟩
def bernR:Rp:=⟨[⟨tx [119,101],[]⟩,⟨tx [109,101,116],[]⟩,⟨tx [116,104,101],[]⟩,⟨tx [101,110,118,111,121],[3,5]⟩,⟨tx [105,110],[]⟩,⟨tx [66,101,114,110],[5]⟩,⟨tx [116,111,100,97,121],[8]⟩],
 [⟨3,4,1,1990⟩,⟨4,6,2,1980⟩,⟨5,6,1,1975⟩],3⟩
set_option maxHeartbeats 4000000 in
theorem bern42:Sound Try.prog 42 id (grel unitRd fun _ v G=>RpV G v bernR):=by
 refine comp42.grel (Tab.nil _) okU (fun args G s h=>by rw [h];exact Nat.zero_le _) (fun x v G G' hg h=>rpRd.grow hg h) (fun args G s h=>?_)
 subst h
 (conv=>whnf)
 refine PubP.mk (fun a1 c1 G1 hg1 h1=>W.mk ?_)
 (conv=>whnf)
 refine PubP.mk (fun a2 c2 G2 hg2 h2=>W.mk ?_)
 (conv=>whnf)
 refine PubP.mk (fun a3 c3 G3 hg3 h3=>W.mk ?_)
 (conv=>whnf)
 refine PubP.mk (fun a4 c4 G4 hg4 h4=>W.mk ?_)
 (conv=>whnf)
 refine PubP.mk (fun a5 c5 G5 hg5 h5=>W.mk ?_)
 (conv=>whnf)
 have k1:SlV intE G5 (.slice a1 2 c1) [3,5]:=((((h1.slV (e:=intE) rfl rfl (by decide):SlV intE G1 (.slice a1 2 c1) [3,5]).grow hg2).grow hg3).grow hg4).grow hg5
 have k2:SlV intE G5 (.slice a2 1 c2) [5]:=(((h2.slV (e:=intE) rfl rfl (by decide):SlV intE G2 (.slice a2 1 c2) [5]).grow hg3).grow hg4).grow hg5
 have k3:SlV intE G5 (.slice a3 1 c3) [8]:=((h3.slV (e:=intE) rfl rfl (by decide):SlV intE G3 (.slice a3 1 c3) [8]).grow hg4).grow hg5
 have k4:SlR 2 wdhE.R G4 a4 7 c4 [(tx [119,101],none,0,0),(tx [109,101,116],none,0,0),(tx [116,104,101],none,0,0),(tx [101,110,118,111,121],a1,2,c1),(tx [105,110],none,0,0),(tx [66,101,114,110],a2,1,c2),(tx [116,111,100,97,121],a3,1,c3)]:=h4.sl (e:=wdhE) rfl rfl
 have k4:=SlR.grow (G:=G4) (G':=G5) (fun _ _ h=>h) k4 hg5
 have k5:SlV odE G5 (.slice a5 3 c5) bernR.orders:=h5.slV (e:=odE) rfl rfl (by decide)
 refine FinP.mk ⟨_,_,rfl,⟨_,_,_,rfl,SlR.conv k4 rfl fun i j1 j2 cs hcs=>?_,by decide⟩,k5⟩
 have hcs:cs = wdhE.f _:=hcs
 subst hcs
 match i,j1,j2 with
 | 0,_,_=>exact ⟨_,rfl,SlV.nil⟩
 | 1,_,_=>exact ⟨_,rfl,SlV.nil⟩
 | 2,_,_=>exact ⟨_,rfl,SlV.nil⟩
 | 3,_,_=>exact ⟨_,rfl,k1⟩
 | 4,_,_=>exact ⟨_,rfl,SlV.nil⟩
 | 5,_,_=>exact ⟨_,rfl,k2⟩
 | 6,_,_=>exact ⟨_,rfl,k3⟩
theorem ints38:Sound Try.prog 38 id (gsca (args2 (slRd intE) (slRd intE) fun _ _=>True) fun p v=>v = .bool (decide (p.1 = p.2))):=by
 refine comp38.gsca (Tab.nil _) (fun args G s h=>?_) (fun args G p h=>?_)
 ·obtain ⟨v,w,rfl,_⟩:=h;simp
 ·obtain ⟨l,l'⟩:=p
  obtain ⟨u,v,rfl,⟨a,n,c,rfl,hl,hn⟩,⟨a',n',c',rfl,hl',hn'⟩,_⟩:=h
  dsimp only at hl hl'
  have hlen:=hl.len
  have hlen':=hl'.len
  dsimp only
  (conv=>whnf)
  refine IteP.mk (fun h1=>W.mk ?_) (fun h1=>W.mk ?_)<;>(conv=>whnf)
  rotate_left
  ·refine FinP.mk ?_
   rw [decide_eq_false (fun e=>h1 (by rw [← hlen, ← hlen',e]))];rfl
  have h1:n = n':=by omega
  refine LoopP.of { α:=Nat,fr:=fun i=>[(0, .v (.slice a n c)),(1, .v (.slice a' n' c')),(5, .v (I i))],H:=fun _=>[],ok:=fun i _=>i≤l.length∧l.take i = l'.take i,m:=fun i=>l.length - i }
   0 (HeadP.of [] ⟨rfl,rfl,rfl,trivial⟩ trivial) ⟨Nat.zero_le _,rfl⟩ (fun _=>⟨rfl,rfl⟩) (fun (i:Nat) G1 hg1 hx=>W.mk ?_)
  obtain ⟨hi,hx⟩:=hx
  dsimp only
  (conv=>whnf)
  refine IteP.mk (fun hlt=>W.mk ?_) (fun hge=>W.mk ?_)<;>(conv=>whnf)
  ·have hlt:i < l.length:=by omega
   have hlt':i < l'.length:=by omega
   have hc:=(SlR.grow (G:=G) (G':=G1) (fun _ _ h=>h) hl hg1).el hlt
   have hc':=(SlR.grow (G:=G) (G':=G1) (fun _ _ h=>h) hl' hg1).el hlt'
   have htk:=take_snoc (List.getElem?_eq_getElem hlt)
   have htk':=take_snoc (List.getElem?_eq_getElem hlt')
   have hne:l[i]≠l'[i]→l≠l':=fun h e=>h (by subst e;rfl)
   generalize l[i] = q at hc htk hne
   generalize l'[i] = q' at hc' htk' hne
   repeat' (first | (refine ob ?_ ?_;(first | trivial | omega | (simp only [inR];omega) | exact ble (by rfl) | exact SlR.some ‹_› (by omega));(conv=>whnf)) | (first | (refine ra ‹_› (by rfl) ?_;(conv=>whnf)) | (refine rb ‹_› (by rfl) ?_;(conv=>whnf)) | (refine rc ‹_› (by rfl) ?_;(conv=>whnf)) | (refine rd ‹_› (by rfl) ?_;(conv=>whnf))))
   refine IteP.mk (fun hq=>W.mk ?_) (fun hq=>W.mk ?_)<;>(conv=>whnf)
   ·have hq:q = q':=hq
    (refine ob ?_ ?_;(first | trivial | omega | (simp only [inR];omega) | exact ble (by rfl) | exact SlR.some ‹_› (by omega));(conv=>whnf))
    exact RoundP.of (i + 1) (HeadP.of [] ⟨rfl,rfl,rfl,trivial⟩ trivial) ⟨hlt,by rw [htk,htk',hx,hq]⟩ (by simp only;omega)
   ·refine FinP.mk ?_
    rw [decide_eq_false (hne hq)];rfl
  ·have:i = l.length:=by omega
   subst this
   rw [List.take_length,List.take_of_length_le (by omega)] at hx
   refine FinP.mk ?_
   rw [decide_eq_true hx];rfl
theorem ne79 (a c:ByteArray) (b d:Int):∀ w,((POp.bin .neq 79).sem [.agg #[.string a,I b], .agg #[.string c,I d]]).run Try.prog w = .ok (.bool (!decide (a = c∧b = d))) w :=
 pur_neSI (s:=9) (e:=3) (by kernel_rfl) (by kernel_rfl) (by kernel_rfl) und9 und3 (by kernel_rfl) (by kernel_rfl) (by kernel_rfl) (by kernel_rfl) a c b d
theorem eq55 (a b c a' b' c':Int):∀ w,((POp.bin .eql 55).sem [.agg #[I a,I b,I c], .agg #[I a',I b',I c']]).run Try.prog w = .ok (.bool (decide (a = a'∧b = b'∧c = c'))) w :=
 pur_eq3 (e:=3) (by kernel_rfl) (by kernel_rfl) (by kernel_rfl) und3 (by kernel_rfl) (by kernel_rfl) (by kernel_rfl) a b c a' b' c'
instance:DecidableEq Pc:=fun a b=>decidable_of_iff (a.text = b.text∧a.col = b.col) ⟨fun h=>by cases a;cases b;cases h.1;cases h.2;rfl,fun h=>by rw [h];exact ⟨rfl,rfl⟩⟩
theorem pieces29:Sound Try.prog 29 id (gsca (args2 (slRd pcE) (slRd pcE) fun _ _=>True) fun p v=>v = .bool (decide (p.1 = p.2))):=by
 refine comp29.gsca (Tab.nil _) (fun args G s h=>?_) (fun args G p h=>?_)
 ·obtain ⟨v,w,rfl,_⟩:=h;simp
 ·obtain ⟨l,l'⟩:=p
  obtain ⟨u,v,rfl,⟨a,n,c,rfl,hl,hn⟩,⟨a',n',c',rfl,hl',hn'⟩,_⟩:=h
  dsimp only at hl hl'
  have hlen:=hl.len
  have hlen':=hl'.len
  dsimp only
  (conv=>whnf)
  refine IteP.mk (fun h1=>W.mk ?_) (fun h1=>W.mk ?_)<;>(conv=>whnf)
  rotate_left
  ·refine FinP.mk ?_
   rw [decide_eq_false (fun e=>h1 (by rw [← hlen, ← hlen',e]))];rfl
  have h1:n = n':=by omega
  refine LoopP.of { α:=Nat,fr:=fun i=>[(0, .v (.slice a n c)),(1, .v (.slice a' n' c')),(5, .v (I i))],H:=fun _=>[],ok:=fun i _=>i≤l.length∧l.take i = l'.take i,m:=fun i=>l.length - i }
   0 (HeadP.of [] ⟨rfl,rfl,rfl,trivial⟩ trivial) ⟨Nat.zero_le _,rfl⟩ (fun _=>⟨rfl,rfl⟩) (fun (i:Nat) G1 hg1 hx=>W.mk ?_)
  obtain ⟨hi,hx⟩:=hx
  dsimp only
  (conv=>whnf)
  refine IteP.mk (fun hlt=>W.mk ?_) (fun hge=>W.mk ?_)<;>(conv=>whnf)
  ·have hlt:i < l.length:=by omega
   have hlt':i < l'.length:=by omega
   have hc:=(SlR.grow (G:=G) (G':=G1) (fun _ _ h=>h) hl hg1).el hlt
   have hc':=(SlR.grow (G:=G) (G':=G1) (fun _ _ h=>h) hl' hg1).el hlt'
   have htk:=take_snoc (List.getElem?_eq_getElem hlt)
   have htk':=take_snoc (List.getElem?_eq_getElem hlt')
   have hne:l[i]≠l'[i]→l≠l':=fun h e=>h (by subst e;rfl)
   generalize l[i] = q at hc htk hne
   generalize l'[i] = q' at hc' htk' hne
   obtain ⟨t1,k1⟩:=q
   obtain ⟨t2,k2⟩:=q'
   repeat' (first | (refine ob ?_ ?_;(first | trivial | omega | (simp only [inR];omega) | exact ble (by rfl) | exact SlR.some ‹_› (by omega));(conv=>whnf)) | (first | (refine ra ‹_› (by rfl) ?_;(conv=>whnf)) | (refine rb ‹_› (by rfl) ?_;(conv=>whnf)) | (refine rc ‹_› (by rfl) ?_;(conv=>whnf)) | (refine rd ‹_› (by rfl) ?_;(conv=>whnf))))
   refine PurP.of _ (ne79 t1 t2 k1 k2) (W.mk ?_)
   (conv=>whnf)
   refine ForkP.mk (fun hq=>W.mk ?_) (fun hq=>W.mk ?_)<;>(conv=>whnf)
   ·refine FinP.mk ?_
    have hq:¬ (t1 = t2∧k1 = k2):=fun h=>by rw [decide_eq_true h] at hq;cases hq
    rw [decide_eq_false (hne fun e=>hq (by cases e;exact ⟨rfl,rfl⟩))];rfl
   ·have hq:t1 = t2∧k1 = k2:=by simpa using hq
    obtain ⟨rfl,rfl⟩:=hq
    (refine ob ?_ ?_;(first | trivial | omega | (simp only [inR];omega) | exact ble (by rfl) | exact SlR.some ‹_› (by omega));(conv=>whnf))
    exact RoundP.of (i + 1) (HeadP.of [] ⟨rfl,rfl,rfl,trivial⟩ trivial) ⟨hlt,by rw [htk,htk',hx]⟩ (by simp only;omega)
  ·have:i = l.length:=by omega
   subst this
   rw [List.take_length,List.take_of_length_le (by omega)] at hx
   refine FinP.mk ?_
   rw [decide_eq_true hx];rfl
end Go.Proofs.Ytpcpjmplgladmaa

namespace Go.Proofs.Ytpcpjmplgladmaa
open Go.Pal
set_option maxRecDepth 100000
instance:DecidableEq En:=fun a b=>decidable_of_iff (a.head = b.head∧a.cols = b.cols) ⟨fun h=>by cases a;cases b;cases h.1;cases h.2;rfl,fun h=>by rw [h];exact ⟨rfl,rfl⟩⟩
theorem EnsV.uniq {G:Hp} {v:Value} {x y:List En} (h:EnsV G v x) (h':EnsV G v y):x = y:=by
 obtain ⟨a,n,c,rfl,h1,_⟩:=h
 obtain ⟨_,_,_,e,h2,_⟩:=h'
 cases e
 exact SlR.uniq (fun cs x y h h'=>EnR.uniq h h') h1 h2
def ensRd:Rd (List En):=⟨EnsV,fun h h'=>h.uniq h',fun hg h=>h.grow hg⟩
theorem entries20:Sound Try.prog 20 id (gsca (args2 ensRd ensRd fun _ _=>True) fun p v=>v = .bool (decide (p.1 = p.2))):=by
 refine comp20.gsca (Tab.cons 38 _ ints38 body38 (Tab.nil _)) (fun args G s h=>?_) (fun args G p h=>?_)
 ·obtain ⟨v,w,rfl,_⟩:=h;simp
 ·obtain ⟨l,l'⟩:=p
  obtain ⟨u,v,rfl,⟨a,n,c,rfl,hl,hn⟩,⟨a',n',c',rfl,hl',hn'⟩,_⟩:=h
  dsimp only at hl hl'
  have hlen:=hl.len
  have hlen':=hl'.len
  dsimp only
  (conv=>whnf)
  refine IteP.mk (fun h1=>W.mk ?_) (fun h1=>W.mk ?_)<;>(conv=>whnf)
  rotate_left
  ·refine FinP.mk ?_
   rw [decide_eq_false (fun e=>h1 (by rw [← hlen, ← hlen',e]))];rfl
  have h1:n = n':=by omega
  refine LoopP.of { α:=Nat,fr:=fun i=>[(0, .v (.slice a n c)),(1, .v (.slice a' n' c')),(5, .v (I i))],H:=fun _=>[],ok:=fun i _=>i≤l.length∧l.take i = l'.take i,m:=fun i=>l.length - i }
   0 (HeadP.of [] ⟨rfl,rfl,rfl,trivial⟩ trivial) ⟨Nat.zero_le _,rfl⟩ (fun _=>⟨rfl,rfl⟩) (fun (i:Nat) G1 hg1 hx=>W.mk ?_)
  obtain ⟨hi,hx⟩:=hx
  dsimp only
  (conv=>whnf)
  refine IteP.mk (fun hlt=>W.mk ?_) (fun hge=>W.mk ?_)<;>(conv=>whnf)
  ·have hlt:i < l.length:=by omega
   have hlt':i < l'.length:=by omega
   obtain ⟨cs,_,hc,hv,rfl,ha,hn1,hcc,rfl,hh⟩:=SlR.cells (SlR.grow (fun _ _ h=>h.grow hg1) hl hg1) hlt
   obtain ⟨cs',_,hc',hv',rfl,ha',hn1',hcc',rfl,hh'⟩:=SlR.cells (SlR.grow (fun _ _ h=>h.grow hg1) hl' hg1) hlt'
   have htk:=take_snoc (List.getElem?_eq_getElem hlt)
   have htk':=take_snoc (List.getElem?_eq_getElem hlt')
   have hne:l[i]≠l'[i]→l≠l':=fun h e=>h (by subst e;rfl)
   generalize l[i] = q at hc htk hne hh
   generalize l'[i] = q' at hc' htk' hne hh'
   obtain ⟨t1,k1⟩:=q
   obtain ⟨t2,k2⟩:=q'
   dsimp only at hc hc' hh hh'
   repeat' (first | (refine ob ?_ ?_;(first | trivial | omega | (simp only [inR];omega) | exact ble (by rfl) | exact SlR.some ‹_› (by omega));(conv=>whnf)) | (first | (refine ra ‹_› (by rfl) ?_;(conv=>whnf)) | (refine rb ‹_› (by rfl) ?_;(conv=>whnf)) | (refine rc ‹_› (by rfl) ?_;(conv=>whnf)) | (refine rd ‹_› (by rfl) ?_;(conv=>whnf))))
   refine IteP.mk (fun hq=>W.mk ?_) (fun hq=>W.mk ?_)<;>(conv=>whnf)
   ·have hq:t1 = t2:=hq
    subst hq
    repeat' (first | (refine ob ?_ ?_;(first | trivial | omega | (simp only [inR];omega) | exact ble (by rfl) | exact SlR.some ‹_› (by omega));(conv=>whnf)) | (first | (refine ra ‹_› (by rfl) ?_;(conv=>whnf)) | (refine rb ‹_› (by rfl) ?_;(conv=>whnf)) | (refine rc ‹_› (by rfl) ?_;(conv=>whnf)) | (refine rd ‹_› (by rfl) ?_;(conv=>whnf))))
    refine ScaP.g (ok2 (slRd intE) (slRd intE) fun _ _=>True) (x:=(k1,k2)) ⟨_,_,rfl,⟨_,_,_,rfl,hh⟩,⟨_,_,_,rfl,hh'⟩,trivial⟩ (fun v hv=>W.mk ?_)
    subst hv
    dsimp only
    (conv=>whnf)
    refine ForkP.mk (fun hq=>W.mk ?_) (fun hq=>W.mk ?_)<;>(conv=>whnf)
    ·have hq:k1 = k2:=by simpa using hq
     subst hq
     (refine ob ?_ ?_;(first | trivial | omega | (simp only [inR];omega) | exact ble (by rfl) | exact SlR.some ‹_› (by omega));(conv=>whnf))
     exact RoundP.of (i + 1) (HeadP.of [] ⟨rfl,rfl,rfl,trivial⟩ trivial) ⟨hlt,by rw [htk,htk',hx]⟩ (by simp only;omega)
    ·have hq:¬ k1 = k2:=by simpa using hq
     refine FinP.mk ?_
     rw [decide_eq_false (hne fun e=>hq (by cases e;rfl))];rfl
   ·have hq:¬ t1 = t2:=hq
    refine FinP.mk ?_
    rw [decide_eq_false (hne fun e=>hq (by cases e;rfl))];rfl
  ·have:i = l.length:=by omega
   subst this
   rw [List.take_length,List.take_of_length_le (by omega)] at hx
   refine FinP.mk ?_
   rw [decide_eq_true hx];rfl
/-! ### Closed evaluation -/
abbrev bx0:Rx:=⟨1970,[]⟩
abbrev bx1:Rx:=⟨1970,[1]⟩
theorem bern_f0:faultX bernR bx0 = 0:=by decide +kernel
theorem bern_f1:faultX bernR bx1 = 0:=by decide +kernel
theorem bern_look:lookF bernR bx0 = [⟨tx [119,101],1⟩,⟨tx [109,101,116],1⟩,⟨tx [116,104,101],1⟩,⟨noText,2⟩,⟨tx [116,111,100,97,121],2⟩]:=by decide +kernel
theorem bern_index:indexF bernR bx1 = [⟨3,[2]⟩,⟨5,[2]⟩,⟨8,[2]⟩]:=by decide +kernel
theorem bern_closed:clF (rgOf bernR bx0) = [⟨3,6,1990⟩]:=by decide +kernel
theorem bern_few {n:Nat} (h:IsFew (rgOf bernR bx0) n):n = 2:=by
 have h2:cnF (sameV (rgOf bernR bx0)) (holF (rgOf bernR bx0)) 2 0 [] = true:=by decide +kernel
 have h1:cnF (sameV (rgOf bernR bx0)) (holF (rgOf bernR bx0)) 1 0 [] = false:=by decide +kernel
 have h0:cnF (sameV (rgOf bernR bx0)) (holF (rgOf bernR bx0)) 0 0 [] = false:=by decide +kernel
 obtain ⟨k1,k2⟩:=h
 by_cases e:n = 2
 ·exact e
 ·rcases Nat.lt_or_gt_of_ne e with h | h
  ·have:n = 0∨n = 1:=by omega
   rcases this with rfl | rfl
   ·rw [h0] at k1;cases k1
   ·rw [h1] at k1;cases k1
  ·rw [k2 2 h] at h2;cases h2
end Go.Proofs.Ytpcpjmplgladmaa

namespace Go.Proofs.Ytpcpjmplgladmaa
open Go.Pal
set_option maxRecDepth 100000
set_option maxHeartbeats 4000000 in
theorem wakes14:Sound Try.prog 14 id (gsca unitRd fun _ v=>v = .bool true):=by
 refine comp14.gsca (Tab.cons 42 _ bern42 body42 (Tab.cons 43 _ in43 body43 (Tab.cons 28 _ look28 body28 (Tab.cons 15 _ index15 body15 (Tab.cons 21 _ closed21 body21 (Tab.cons 37 _ fewest37 body37 (Tab.cons 29 _ pieces29 body29 (Tab.cons 20 _ entries20 body20 (Tab.nil _))))))))) (fun args G s h=>by rw [h];exact Nat.zero_le _) (fun args G s h=>?_)
 subst h
 (conv=>whnf)
 refine RelP.g okU (x:=()) rfl (Grow.refl _) (fun v G1 h1 q1=>W.mk ?_)
 have hb:=q1
 obtain ⟨bw,bo,rfl,_⟩:=q1
 (conv=>whnf)
 refine OblP.mk ⟨1970,none,0,0,rfl⟩ (W.mk ?_)
 (conv=>whnf)
 refine RelP.g (ok2 rpRd rxRd fun _ _=>True) (x:=(bernR,bx0)) ⟨_,_,rfl,hb,⟨_,rfl,SlV.nil⟩,trivial⟩ (Grow.refl _) (fun v G2 h2 q2=>W.mk ?_)
 obtain ⟨wl,rfl,hL⟩:=q2
 dsimp only at hL ⊢
 rw [if_pos bern_f0,bern_look] at hL
 rw [bern_f0]
 obtain ⟨la,ln,lc,rfl,_,_⟩:=id hL
 clear hb
 (conv=>whnf)
 refine RelP.g okU (x:=()) rfl (Grow.refl _) (fun v G3 h3 q3=>W.mk ?_)
 have hb:=q3
 obtain ⟨bw,bo,rfl,_⟩:=q3
 (conv=>whnf)
 refine PubP.mk (fun a1 c1 G4 h4 p4=>W.mk ?_)
 (conv=>whnf)
 refine OblP.mk ⟨1970,_,_,_,rfl⟩ (W.mk ?_)
 (conv=>whnf)
 refine RelP.g (ok2 rpRd rxRd fun _ _=>True) (x:=(bernR,bx1)) ⟨_,_,rfl,rpRd.grow h4 hb,⟨_,rfl,p4.slV (e:=intE) rfl rfl (by decide)⟩,trivial⟩ (Grow.refl _) (fun v G5 h5 q5=>W.mk ?_)
 obtain ⟨wi,rfl,hI⟩:=q5
 dsimp only at hI ⊢
 rw [if_pos bern_f1,bern_index] at hI
 rw [bern_f1]
 obtain ⟨ia,in_,ic,rfl,_,_⟩:=id hI
 clear hb
 (conv=>whnf)
 refine RelP.g okU (x:=()) rfl (Grow.refl _) (fun v G6 h6 q6=>W.mk ?_)
 have hb:=q6
 obtain ⟨bw,bo,rfl,_⟩:=q6
 (conv=>whnf)
 refine OblP.mk ⟨1970,none,0,0,rfl⟩ (W.mk ?_)
 (conv=>whnf)
 refine RelP.g (ok2 rpRd rxRd fun _ _=>True) (x:=(bernR,bx0)) ⟨_,_,rfl,hb,⟨_,rfl,SlV.nil⟩,trivial⟩ (Grow.refl _) (fun v G7 h7 q7=>W.mk ?_)
 obtain ⟨ws,rfl,hS⟩:=q7
 dsimp only at hS ⊢
 rw [if_pos bern_f0,bern_closed] at hS
 rw [bern_f0]
 obtain ⟨sa,sn,sc,rfl,hs1,_⟩:=id hS
 have hsn:=hs1.len
 have hsn:1 = sn:=hsn
 subst hsn
 clear hb
 (conv=>whnf)
 refine RelP.g okU (x:=()) rfl (Grow.refl _) (fun v G8 h8 q8=>W.mk ?_)
 have hb:=q8
 obtain ⟨bw,bo,rfl,_⟩:=q8
 (conv=>whnf)
 refine OblP.mk ⟨1970,none,0,0,rfl⟩ (W.mk ?_)
 (conv=>whnf)
 refine RelP.g (ok2 rpRd rxRd fun _ _=>True) (x:=(bernR,bx0)) ⟨_,_,rfl,hb,⟨_,rfl,SlV.nil⟩,trivial⟩ (Grow.refl _) (fun v G9 h9 q9=>W.mk ?_)
 rcases q9 with ⟨e,_⟩ | ⟨_,n,rfl,hfew⟩
 ·exact absurd bern_f0 e
 have:=bern_few hfew
 subst this
 clear hb
 (conv=>whnf)
 refine IteP.mk (fun _=>W.mk ?_) (fun h=>absurd rfl h)
 (conv=>whnf)
 refine IteP.mk (fun _=>W.mk ?_) (fun h=>absurd rfl h)
 (conv=>whnf)
 refine IteP.mk (fun _=>W.mk ?_) (fun h=>absurd rfl h)
 (conv=>whnf)
 refine IteP.mk (fun _=>W.mk ?_) (fun h=>absurd rfl h)
 (conv=>whnf)
 refine PubP.mk (fun a2 c2 Ga ha pa=>W.mk ?_)
 (conv=>whnf)
 refine ScaP.g (ok2 (slRd pcE) (slRd pcE) fun _ _=>True) (x:=([⟨tx [119,101],1⟩,⟨tx [109,101,116],1⟩,⟨tx [116,104,101],1⟩,⟨noText,2⟩,⟨tx [116,111,100,97,121],2⟩],[⟨tx [119,101],1⟩,⟨tx [109,101,116],1⟩,⟨tx [116,104,101],1⟩,⟨noText,2⟩,⟨tx [116,111,100,97,121],2⟩]))
  ⟨_,_,rfl,(((((((hL.grow h3).grow h4).grow h5).grow h6).grow h7).grow h8).grow h9).grow ha,pa.slV (e:=pcE) rfl rfl (by decide),trivial⟩ (fun v hv=>W.mk ?_)
 subst hv
 dsimp only
 (conv=>whnf)
 refine ForkP.mk (fun _=>W.mk ?_) (fun h=>by simp at h)
 (conv=>whnf)
 refine PubP.mk (fun a3 c3 Gb hb pb=>W.mk ?_)
 (conv=>whnf)
 refine PubP.mk (fun a4 c4 Gc hc pc=>W.mk ?_)
 (conv=>whnf)
 refine PubP.mk (fun a5 c5 Gd hd pd=>W.mk ?_)
 (conv=>whnf)
 refine PubP.mk (fun a6 c6 Ge he pe=>W.mk ?_)
 (conv=>whnf)
 have k1:SlV intE Ge (.slice a3 1 c3) [2]:=(((pb.slV (e:=intE) rfl rfl (by decide):SlV intE Gb (.slice a3 1 c3) [2]).grow hc).grow hd).grow he
 have k2:SlV intE Ge (.slice a4 1 c4) [2]:=((pc.slV (e:=intE) rfl rfl (by decide):SlV intE Gc (.slice a4 1 c4) [2]).grow hd).grow he
 have k3:SlV intE Ge (.slice a5 1 c5) [2]:=(pd.slV (e:=intE) rfl rfl (by decide):SlV intE Gd (.slice a5 1 c5) [2]).grow he
 have k4:SlR 2 enE.R Ge a6 3 c6 [(3,a3,1,c3),(5,a4,1,c4),(8,a5,1,c5)]:=pe.sl (e:=enE) rfl rfl
 have k5:EnsV Ge (.slice a6 3 c6) [⟨3,[2]⟩,⟨5,[2]⟩,⟨8,[2]⟩]:=by
  refine ⟨_,_,_,rfl,SlR.mapEn k4 rfl fun i j1 j2=>?_,by decide⟩
  match i,j1,j2 with
  | 0,_,_=>exact ⟨_,rfl,k1⟩
  | 1,_,_=>exact ⟨_,rfl,k2⟩
  | 2,_,_=>exact ⟨_,rfl,k3⟩
 refine ScaP.g (ok2 ensRd ensRd fun _ _=>True) (x:=([⟨3,[2]⟩,⟨5,[2]⟩,⟨8,[2]⟩],[⟨3,[2]⟩,⟨5,[2]⟩,⟨8,[2]⟩]))
  ⟨_,_,rfl,((((((((hI.grow h6).grow h7).grow h8).grow h9).grow ha).grow hb).grow hc).grow hd).grow he,k5,trivial⟩ (fun v hv=>W.mk ?_)
 subst hv
 dsimp only
 (conv=>whnf)
 refine ForkP.mk (fun _=>W.mk ?_) (fun h=>by simp at h)
 (conv=>whnf)
 refine IteP.mk (fun _=>W.mk ?_) (fun h=>absurd rfl h)
 (conv=>whnf)
 have hS2:SlR shE.k shE.R Ge sa 1 sc [⟨3,6,1990⟩]:=SlR.grow (G:=G7) (G':=Ge) (fun _ _ h=>h) hs1 ((((((h8.trans h9).trans ha).trans hb).trans hc).trans hd).trans he)
 have hel:=hS2.el (i:=0) (by decide)
 have hel:CellsAt Ge (ab sa) (ao sa + (0:Int).toNat * 3) [I 3,I 6,I 1990]:=hel
 repeat' (first | (refine ob ?_ ?_;(first | trivial | omega | (simp only [inR];omega) | exact ble (by rfl) | exact SlR.some ‹_› (by omega));(conv=>whnf)) | (first | (refine ra ‹_› (by rfl) ?_;(conv=>whnf)) | (refine rb ‹_› (by rfl) ?_;(conv=>whnf)) | (refine rc ‹_› (by rfl) ?_;(conv=>whnf)) | (refine rd ‹_› (by rfl) ?_;(conv=>whnf))))
 refine PurP.of _ (eq55 3 6 1990 3 6 1990) (W.mk ?_)
 (conv=>whnf)
 refine ForkP.mk (fun _=>W.mk ?_) (fun h=>by simp at h)
 (conv=>whnf)
 refine IteP.mk (fun _=>W.mk ?_) (fun h=>absurd rfl h)
 (conv=>whnf)
 exact FinP.mk rfl
end Go.Proofs.Ytpcpjmplgladmaa

namespace Go.Proofs.Ytpcpjmplgladmaa
open Go.Pal Go.RowKit
set_option maxRecDepth 100000
def SlU {α:Type} (e:El α) (G:Hp) (v:Value) (l:List α):Prop:=∃ a n c,v = .slice a n c∧SlR e.k e.R G a n c l∧n≤maxLen
theorem SlU.uniq {α:Type} {e:El α} {G:Hp} {v:Value} {x y:List α} (h:SlU e G v x) (h':SlU e G v y):x = y:=by
 obtain ⟨a,n,c,rfl,h,_⟩:=h
 obtain ⟨a',n',c',e',h',_⟩:=h'
 cases e'
 exact h.uniq (fun cs x y h1 h2=>e.inj (h1.symm.trans h2)) h'
theorem SlU.grow {α:Type} {e:El α} {G G':Hp} {v:Value} {x:List α} (hg:Grow G G') (h:SlU e G v x):SlU e G' v x:=by
 obtain ⟨a,n,c,rfl,h,hn⟩:=h
 exact ⟨a,n,c,rfl,SlR.grow (G:=G) (G':=G') (fun _ _ h=>h) h hg,hn⟩
theorem SlU.v {α:Type} {e:El α} {G:Hp} {v:Value} {x:List α} (h:SlU e G v x) (hb:x.length≤140737488355328):SlV e G v x:=by
 obtain ⟨a,n,c,rfl,h,_⟩:=h
 exact ⟨a,n,c,rfl,h,by rw [← h.len];exact hb⟩
def WuR (G:Hp) (cs:List Value) (w:Wd):Prop:=∃ h,cs = [.string w.text,h]∧SlU intE G h w.heads
theorem WuR.uniq {G:Hp} {cs:List Value} {x y:Wd} (h:WuR G cs x) (h':WuR G cs y):x = y:=by
 obtain ⟨a,e,h1⟩:=h
 obtain ⟨b,e',h2⟩:=h'
 rw [e] at e'
 simp only [List.cons.injEq,Value.string.injEq,and_true] at e'
 obtain ⟨e1,e2⟩:=e'
 subst e2
 have:=h1.uniq h2
 cases x;cases y;simp_all
theorem WuR.grow {G G':Hp} (hg:Grow G G') {cs:List Value} {x:Wd} (h:WuR G cs x):WuR G' cs x:=by
 obtain ⟨a,e,h1⟩:=h
 exact ⟨a,e,h1.grow hg⟩
structure RuC (G:Hp) (w o:Value) (r:Rp):Prop where
 w:∃ a n c,w = .slice a n c∧SlR 2 WuR G a n c r.words∧n≤maxLen
 o:SlU odE G o r.orders
theorem RuC.grow {G G':Hp} (hg:Grow G G') {w o:Value} {r:Rp} (h:RuC G w o r):RuC G' w o r:=by
 obtain ⟨⟨a,n,c,e,h1,h2⟩,h3⟩:=h
 exact ⟨⟨a,n,c,e,SlR.grow (fun _ _ h=>h.grow hg) h1 hg,h2⟩,h3.grow hg⟩
def RuV (G:Hp) (v:Value) (r:Rp):Prop:=∃ w o,v = .agg #[w,o,I r.cols]∧RuC G w o r
def ruRd:Rd Rp:=⟨RuV,fun {_ _ x y} ⟨w,o,h,h1⟩ ⟨w',o',h',h1'⟩=>by
  subst h
  simp only [Value.agg.injEq,Array.mk.injEq,List.cons.injEq,Value.int.injEq,true_and,and_true] at h'
  obtain ⟨e1,e2,e3⟩:=h'
  subst e1;subst e2
  obtain ⟨a,n,c,rfl,k1,_⟩:=h1.w
  obtain ⟨a',n',c',e,k2,_⟩:=h1'.w
  cases e
  have m1:=SlR.uniq (fun cs x y h h'=>WuR.uniq h h') k1 k2
  have m2:=h1.o.uniq h1'.o
  cases x;cases y;simp_all,fun hg ⟨w,o,h,h1⟩=>⟨w,o,h,h1.grow hg⟩⟩
def XuV (G:Hp) (v:Value) (x:Rx):Prop:=∃ m,v = .agg #[I x.year,m]∧SlU intE G m x.may
def xuRd:Rd Rx:=⟨XuV,fun {_ _ x y} ⟨m,h,h1⟩ ⟨m',h',h1'⟩=>by
  subst h
  simp only [Value.agg.injEq,Array.mk.injEq,List.cons.injEq,Value.int.injEq,true_and,and_true] at h'
  obtain ⟨e1,e2⟩:=h'
  subst e2
  have:=h1.uniq h1'
  cases x;cases y;simp_all,fun hg ⟨m,h,h1⟩=>⟨m,h,h1.grow hg⟩⟩
def fewW (w:Wd):Bool:=decide (w.text.size≤25) && decide (w.heads.length≤8)
def fewF (r:Rp) (x:Rx):Bool:=r.words.all fewW && (decide (r.words.length≤65) && (decide (r.orders.length≤15) && decide (x.may.length≤12)))
structure Few (r:Rp) (x:Rx):Prop where
 w:∀ w∈r.words,w.text.size≤25∧w.heads.length≤8
 wl:r.words.length≤65
 ol:r.orders.length≤15
 ml:x.may.length≤12
theorem few_of {r:Rp} {x:Rx} (h:fewF r x = true):Few r x:=by
 simp only [fewF,fewW,Bool.and_eq_true,List.all_eq_true,decide_eq_true_eq] at h
 exact ⟨h.1,h.2.1,h.2.2.1,h.2.2.2⟩
theorem RuV.v {G:Hp} {v:Value} {r:Rp} {x:Rx} (h:RuV G v r) (hf:Few r x):RpV G v r:=by
 obtain ⟨w,o,e,⟨a,n,c,e1,h1,_⟩,h2⟩:=h
 refine ⟨w,o,e,⟨a,n,c,e1,SlR.conv h1 rfl fun i j1 j2 cs hcs=>?_, ?_⟩,h2.v (by have:=hf.ol;omega)⟩
 ·obtain ⟨hd,k1,k2⟩:=hcs
  exact ⟨hd,k1,k2.v (by have:=(hf.w _ (List.getElem_mem j1)).2;omega)⟩
 ·have:=hf.wl;have:=h1.len;omega
theorem XuV.v {G:Hp} {v:Value} {r:Rp} {x:Rx} (h:XuV G v x) (hf:Few r x):RxV G v x:=by
 obtain ⟨m,e,h1⟩:=h
 exact ⟨m,e,h1.v (by have:=hf.ml;omega)⟩
theorem few13:Sound Try.prog 13 id (gsca (args2 ruRd xuRd fun _ _=>True) fun p v=>v = .bool (fewF p.1 p.2)):=by
 refine comp13.gsca (Tab.nil _) (fun args G s h=>?_) (fun args G p h=>?_)
 ·obtain ⟨v,w,rfl,_⟩:=h;simp
 ·obtain ⟨r,x⟩:=p
  obtain ⟨u,v,rfl,⟨rw_,ro,rfl,⟨wa,wn,wc,rfl,hw1,hw2⟩,⟨oa,on,oc,rfl,ho1,ho2⟩⟩,⟨m,rfl,⟨ma,mn,mc,rfl,hm1,hm2⟩⟩,_⟩:=h
  dsimp only at hw1 ho1 hm1
  have hwn:=hw1.len
  have hon:=ho1.len
  have hmn:=hm1.len
  have hml:maxLen≤9223372036854775807:=by unfold maxLen;omega
  have hfw:fewF r x = (r.words.all fewW && (decide (r.words.length≤65) && (decide (r.orders.length≤15) && decide (x.may.length≤12)))):=rfl
  dsimp only
  (conv=>whnf)
  refine LoopP.of { α:=Nat,fr:=fun i=>[(2, .c (.ptr 0 0)),(3, .c (.ptr 1 0)),(5, .v (I i))],H:=fun _=>[(0, .cells .anon [.val (.slice wa wn wc), .val (.slice oa on oc), .val (I r.cols)] 25),(1, .cells .anon [.val (I x.year), .val (.slice ma mn mc)] 28)],ok:=fun i _=>i≤wn∧(r.words.drop i).all fewW = r.words.all fewW,m:=fun i=>wn - i }
   0 (HeadP.of [] ⟨rfl,rfl,rfl,trivial⟩ ⟨rfl,rfl,trivial⟩) ⟨Nat.zero_le _,rfl⟩ (fun _=>⟨rfl,rfl⟩) (fun (i:Nat) G1 hg1 hx=>W.mk ?_)
  obtain ⟨hi,hx⟩:=hx
  have hw3:SlR 2 WuR G1 wa wn wc r.words:=SlR.grow (fun _ _ h=>h.grow hg1) hw1 hg1
  dsimp only
  (conv=>whnf)
  refine IteP.mk (fun hlt=>W.mk ?_) (fun hge=>W.mk ?_)<;>(conv=>whnf)
  ·have hlt:i < r.words.length:=by omega
   rw [List.drop_eq_getElem_cons hlt,List.all_cons] at hx
   obtain ⟨cs,_,hc,hv,rfl,ha,hn,hcc,rfl,hh1,hh2⟩:=SlR.cells hw3 hlt
   have hhl:=hh1.len
   have hlw:fewW r.words[i] = (decide (r.words[i].text.size≤25) && decide (r.words[i].heads.length≤8)):=rfl
   generalize r.words[i] = w at hx hc hh1 hhl hlw
   repeat' (first | (refine ob ?_ ?_;(first | trivial | omega | (simp only [inR];omega) | exact ble (by rfl) | exact SlR.some ‹_› (by omega));(conv=>whnf)) | (first | (refine ra ‹_› (by rfl) ?_;(conv=>whnf)) | (refine rb ‹_› (by rfl) ?_;(conv=>whnf)) | (refine rc ‹_› (by rfl) ?_;(conv=>whnf)) | (refine rd ‹_› (by rfl) ?_;(conv=>whnf))))
   refine IteP.mk (fun h5=>W.mk ?_) (fun h5=>W.mk ?_)<;>(conv=>whnf)
   ·have h5:¬ w.text.size≤25:=by omega
    refine FinP.mk ?_
    rw [hfw, ← hx,hlw,decide_eq_false h5];rfl
   ·have h5:w.text.size≤25:=by omega
    repeat' (first | (refine ob ?_ ?_;(first | trivial | omega | (simp only [inR];omega) | exact ble (by rfl) | exact SlR.some ‹_› (by omega));(conv=>whnf)) | (first | (refine ra ‹_› (by rfl) ?_;(conv=>whnf)) | (refine rb ‹_› (by rfl) ?_;(conv=>whnf)) | (refine rc ‹_› (by rfl) ?_;(conv=>whnf)) | (refine rd ‹_› (by rfl) ?_;(conv=>whnf))))
    refine IteP.mk (fun h6=>W.mk ?_) (fun h6=>W.mk ?_)<;>(conv=>whnf)
    ·have h6:¬ w.heads.length≤8:=by omega
     refine FinP.mk ?_
     rw [hfw, ← hx,hlw,decide_eq_false h6,Bool.and_false];rfl
    ·have h6:w.heads.length≤8:=by omega
     rw [hlw,decide_eq_true h5,decide_eq_true h6,Bool.true_and,Bool.true_and] at hx
     repeat' (first | (refine ob ?_ ?_;(first | trivial | omega | (simp only [inR];omega) | exact ble (by rfl) | exact SlR.some ‹_› (by omega));(conv=>whnf)) | (first | (refine ra ‹_› (by rfl) ?_;(conv=>whnf)) | (refine rb ‹_› (by rfl) ?_;(conv=>whnf)) | (refine rc ‹_› (by rfl) ?_;(conv=>whnf)) | (refine rd ‹_› (by rfl) ?_;(conv=>whnf))))
     exact RoundP.of (i + 1) (HeadP.of [] ⟨rfl,rfl,rfl,trivial⟩ ⟨rfl,rfl,trivial⟩) ⟨by omega,hx⟩ (by simp only;omega)
  ·rw [List.drop_of_length_le (by omega)] at hx
   have hx:true = r.words.all fewW:=hx
   rw [← hx,Bool.true_and] at hfw
   refine IteP.mk (fun h5=>W.mk ?_) (fun h5=>W.mk ?_)<;>(conv=>whnf)
   rotate_left
   ·refine FinP.mk ?_
    rw [hfw,decide_eq_false (by omega)];rfl
   refine IteP.mk (fun h6=>W.mk ?_) (fun h6=>W.mk ?_)<;>(conv=>whnf)
   rotate_left
   ·refine FinP.mk ?_
    rw [hfw,decide_eq_false (by omega:¬ r.orders.length≤15),Bool.false_and,Bool.and_false];rfl
   refine IteP.mk (fun h7=>W.mk ?_) (fun h7=>W.mk ?_)<;>(conv=>whnf)
   ·refine FinP.mk ?_
    rw [hfw,decide_eq_true (by omega:r.words.length≤65),decide_eq_true (by omega:r.orders.length≤15),decide_eq_true (by omega:x.may.length≤12)];rfl
   ·refine FinP.mk ?_
    rw [hfw,decide_eq_false (by omega:¬ x.may.length≤12),Bool.and_false,Bool.and_false];rfl
theorem faultL18:Sound Try.prog 18 id (gsca (args2 rpRd rxRd fun r _=>∀ w∈r.words,w.text.size≤1000) fun p v=>v = I (faultX p.1 p.2)):=by
 refine comp18.gsca (Tab.cons 32 _ fault32 body32 (Tab.cons 49 _ reader49 body49 (Tab.nil _))) (fun args G s h=>?_) (fun args G p h=>?_)
 ·obtain ⟨v,w,rfl,_⟩:=h;simp
 ·obtain ⟨r,x⟩:=p
  obtain ⟨u,v,rfl,hr,hx,hb⟩:=h
  dsimp only at hr hx hb
  obtain ⟨rw_,ro,rfl,hrc⟩:=id hr
  obtain ⟨m,rfl,hm⟩:=id hx
  obtain ⟨oa,on,oc,rfl,ho1,ho2⟩:=id hrc.o
  obtain ⟨wa,wn,wc,rfl,hw1,hw2⟩:=id hrc.w
  obtain ⟨ma,mn,mc,rfl,hm1,hm2⟩:=id hm
  dsimp only
  (conv=>whnf)
  refine ScaP.g (ok1 rpRd _) (x:=r) ⟨_,rfl,hr,hb⟩ (fun v hv=>W.mk ?_)
  subst hv
  (conv=>whnf)
  refine IteP.mk (fun h1=>W.mk ?_) (fun h1=>W.mk ?_)<;>(conv=>whnf)
  rotate_left
  ·refine FinP.mk ?_
   rw [faultX,if_neg h1];rfl
  have h1:faultR r = 0:=h1
  refine ScaP.g (ok1 rxRd fun _=>True) (x:=x) ⟨_,rfl,hx,trivial⟩ (fun v hv=>W.mk ?_)
  subst hv
  (conv=>whnf)
  refine ForkP.mk (fun h2=>W.mk ?_) (fun h2=>W.mk ?_)<;>(conv=>whnf)
  ·refine FinP.mk ?_
   rw [faultX,if_pos h1,if_pos h2];rfl
  ·refine FinP.mk ?_
   rw [faultX,if_pos h1,if_neg (by rw [h2];simp)];rfl
theorem ready23:Sound Try.prog 23 id (gsca (args2 ruRd xuRd fun _ _=>True) fun p v=>v = .bool (fewF p.1 p.2 && decide (faultX p.1 p.2 = 0))):=by
 refine comp23.gsca (Tab.cons 13 _ few13 body13 (Tab.cons 18 _ faultL18 body18 (Tab.nil _))) (fun args G s h=>?_) (fun args G p h=>?_)
 ·obtain ⟨v,w,rfl,_⟩:=h;simp
 ·obtain ⟨r,x⟩:=p
  obtain ⟨u,v,rfl,hr,hx,_⟩:=h
  dsimp only at hr hx
  obtain ⟨rw_,ro,rfl,⟨wa,wn,wc,rfl,hw1,hw2⟩,⟨oa,on,oc,rfl,ho1,ho2⟩⟩:=id hr
  obtain ⟨m,rfl,⟨ma,mn,mc,rfl,hm1,hm2⟩⟩:=id hx
  dsimp only
  (conv=>whnf)
  refine ScaP.g (ok2 ruRd xuRd fun _ _=>True) (x:=(r,x)) ⟨_,_,rfl,hr,hx,trivial⟩ (fun v hv=>W.mk ?_)
  subst hv
  dsimp only
  (conv=>whnf)
  refine ForkP.mk (fun h1=>W.mk ?_) (fun h1=>W.mk ?_)<;>(conv=>whnf)
  rotate_left
  ·refine FinP.mk ?_
   rw [h1];rfl
  have hf:=few_of h1
  refine ScaP.g (ok2 rpRd rxRd _) (x:=(r,x)) ⟨_,_,rfl,hr.v hf,hx.v hf,fun w hw=>by have:=(hf.w w hw).1;omega⟩ (fun v hv=>W.mk ?_)
  subst hv
  dsimp only
  (conv=>whnf)
  refine IteP.mk (fun h2=>W.mk ?_) (fun h2=>W.mk ?_)<;>(conv=>whnf)
  ·refine FinP.mk ?_
   rw [h1,decide_eq_true h2];rfl
  ·refine FinP.mk ?_
   rw [h1,decide_eq_false h2];rfl
end Go.Proofs.Ytpcpjmplgladmaa

namespace Go.Proofs.Ytpcpjmplgladmaa
open Go.Pal Go.ChangeShapes
theorem SlR.map {α β:Type} {k:Nat} {R:Hp→List Value→α→Prop} {R':Hp→List Value→β→Prop} {G:Hp} {a:Option Addr} {n c:Nat} {l:List α} (f:α→β) (hf:∀ cs x,R G cs x→R' G cs (f x)) (h:SlR k R G a n c l):SlR k R' G a n c (l.map f) :=
 ⟨by rw [List.length_map,h.len],h.cap,h.some,fun i hi=>by
  obtain ⟨cs,h1,h2,h3⟩:=h.at_ i (by simpa using hi)
  exact ⟨cs,h1,h2,by rw [List.getElem_map];exact hf _ _ h3⟩⟩
theorem udl5:Try.prog.underlying 5 = some (.int .u8):=by kernel_rfl
theorem o3:Opens Try.prog 3 (cdInt .i64):=.int und3
theorem o5:Opens Try.prog 5 (cdInt .u8):=.int udl5
theorem o9:Opens Try.prog 9 cdStr:=.str und9
theorem o26:Opens Try.prog 26 (cdSl (cdInt .i64)):=.slice (e:=3) (by kernel_rfl) o3 (by decide)
abbrev cdWd:=cdPair cdStr (cdPair (cdSl (cdInt .i64)) cdUnit)
theorem o82:Opens Try.prog 82 cdWd:=.struct (fs:=[(9,0),(26,1)]) (by kernel_rfl) (by kernel_rfl) (OpensF.cons o9 (OpensF.cons o26 OpensF.nil))
abbrev cdOd:=cdPair (cdInt .i64) (cdPair (cdInt .i64) (cdPair (cdInt .i64) (cdPair (cdInt .i64) cdUnit)))
theorem o90:Opens Try.prog 90 cdOd:=.struct (fs:=[(3,0),(3,1),(3,2),(3,3)]) (by kernel_rfl) (by kernel_rfl) (OpensF.cons o3 (OpensF.cons o3 (OpensF.cons o3 (OpensF.cons o3 OpensF.nil))))
theorem o22:Opens Try.prog 22 (cdSl cdWd):=.slice (e:=82) (by kernel_rfl) o82 (by decide)
theorem o23:Opens Try.prog 23 (cdSl cdOd):=.slice (e:=90) (by kernel_rfl) o90 (by decide)
abbrev cdRp:=cdPair (cdSl cdWd) (cdPair (cdSl cdOd) (cdPair (cdInt .i64) cdUnit))
theorem o25:Opens Try.prog 25 cdRp:=.struct (fs:=[(22,0),(23,1),(3,2)]) (by kernel_rfl) (by kernel_rfl) (OpensF.cons o22 (OpensF.cons o23 (OpensF.cons o3 OpensF.nil)))
abbrev cdRx:=cdPair (cdInt .i64) (cdPair (cdSl (cdInt .i64)) cdUnit)
theorem o28:Opens Try.prog 28 cdRx:=.struct (fs:=[(3,0),(26,1)]) (by kernel_rfl) (by kernel_rfl) (OpensF.cons o3 (OpensF.cons o26 OpensF.nil))
theorem sli_cd {G:Hp} {a:Option Addr} {n c:Nat} {l:List Int} (h:SlR (cdInt .i64).k (cdInt .i64).R G a n c l):SlR intE.k intE.R G a n c l:=by
 have hi:∀ (cs:List Value) x,(cdInt .i64).R G cs x→intE.R G cs (id x):=fun _ _ h=>h.1
 have:=SlR.map id hi h
 rwa [List.map_id] at this
theorem wd_cd {G:Hp} {cs:List Value} {x} (h:cdWd.R G cs x):WuR G cs ⟨x.1,x.2.1⟩:=by
 obtain ⟨_,_,rfl,⟨rfl,_⟩,_,_,rfl,⟨a,n,c,rfl,h1,h2⟩,rfl⟩:=h
 exact ⟨_,rfl,a,n,c,rfl,sli_cd h1,h2⟩
theorem od_cd {G:Hp} {cs:List Value} {x} (h:cdOd.R G cs x):odE.R G cs ⟨x.1,x.2.1,x.2.2.1,x.2.2.2.1⟩:=by
 obtain ⟨_,_,rfl,⟨rfl,_⟩,_,_,rfl,⟨rfl,_⟩,_,_,rfl,⟨rfl,_⟩,_,_,rfl,⟨rfl,_⟩,rfl⟩:=h
 rfl
theorem rp_val {G:Hp} {v:Value} (h:∃ x,VR cdRp true G v x):∃ r,RuV G v r:=by
 obtain ⟨x,cs,rfl,_,_,e,⟨a,n,c,rfl,h1,h2⟩,_,_,rfl,⟨a',n',c',rfl,h3,h4⟩,_,_,rfl,⟨rfl,_⟩,rfl⟩:=h
 refine ⟨⟨x.1.map fun w=>⟨w.1,w.2.1⟩,x.2.1.map fun o=>⟨o.1,o.2.1,o.2.2.1,o.2.2.2.1⟩,x.2.2.1⟩, .slice a n c, .slice a' n' c', ?_,⟨a,n,c,rfl,SlR.map _ (fun _ _ h=>wd_cd h) h1,h2⟩,a',n',c',rfl,SlR.map _ (fun _ _ h=>od_cd h) h3,h4⟩
 simp at e
 exact congrArg Value.agg (Array.toList_inj.1 e)
theorem rx_val {G:Hp} {v:Value} (h:∃ x,VR cdRx true G v x):∃ x,XuV G v x:=by
 obtain ⟨x,cs,rfl,_,_,e,⟨rfl,_⟩,_,_,rfl,⟨a,n,c,rfl,h1,h2⟩,rfl⟩:=h
 refine ⟨⟨x.1,x.2.1⟩, .slice a n c, ?_,a,n,c,rfl,sli_cd h1,h2⟩
 simp at e
 exact congrArg Value.agg (Array.toList_inj.1 e)
def u8Rd:Rd Int:=⟨fun _ v x=>v = U x,fun {_ _ _ _} h h'=>by rw [h] at h';cases h';rfl,fun {_ _ _ _} _ h=>h⟩
theorem u8_val {G:Hp} {v:Value} (h:∃ x,VR (cdInt .u8) false G v x):∃ n,u8Rd.R G v n∧0≤n∧n≤255:=by
 obtain ⟨x,e,hr⟩:=h
 simp only [inR] at hr
 have e:[v] = [U x]:=e
 exact ⟨x,(List.cons.inj e).1,hr.1,by omega⟩
theorem ownK:ownKnob Try.checked.prog.godebug = none:=by kernel_rfl
theorem laidK:laidOutB Try.checked.prog = true:=by kernel_rfl
theorem boolK:Try.checked.prog.underlying 4 = some .bool:=by kernel_rfl
abbrev rp0:Value:=.agg #[.slice none 0 0, .slice none 0 0, .int .i64 0]
abbrev rx0:Value:=.agg #[.int .i64 0, .slice none 0 0]
end Go.Proofs.Ytpcpjmplgladmaa

namespace Go.Proofs.Ytpcpjmplgladmaa
open Go.Pal Go.RowKit
set_option maxRecDepth 100000
theorem reader17:Sound Try.prog 17 id (grel (args1 rxRd fun x=>x.may.length≤1000) fun x v G=>RxV G v x):=by
 refine comp17.grel (Tab.cons 27 _ list27 body27 (Tab.nil _)) (ok1 _ _) (fun args G s h=>?_) (fun x v G G' hg h=>rxRd.grow hg h) (fun args G x h=>?_)
 ·obtain ⟨v,rfl,_⟩:=h;simp
 ·obtain ⟨v,rfl,⟨m,rfl,hm⟩,hb⟩:=h
  obtain ⟨ma,mn,mc,rfl,hm1,hm2⟩:=id hm
  (conv=>whnf)
  refine RelP.g (ok1 (slRd intE) fun l=>l.length≤1000) (x:=x.may) ⟨_,rfl,hm,hb⟩ (Grow.refl _) (fun v G1 hg1 hq=>W.mk ?_)
  obtain ⟨a,n,c,rfl,h1,h2⟩:=id hq
  (conv=>whnf)
  exact FinP.mk ⟨_,rfl,hq⟩
structure Repo (r:Rp):Prop where
 wl:r.words.length≤1000
 ol:r.orders.length≤1000
 w:∀ w∈r.words,w.heads.length≤1000
theorem Few.repo {r:Rp} {x:Rx} (h:Few r x):Repo r:=⟨by have:=h.wl;omega,by have:=h.ol;omega,fun w hw=>by have:=(h.w w hw).2;omega⟩
theorem report16:Sound Try.prog 16 id (grel (args1 rpRd Repo) fun r v G=>RpV G v r):=by
 refine comp16.grel (Tab.cons 27 _ list27 body27 (Tab.nil _)) (ok1 _ _) (fun args G s h=>?_) (fun x v G G' hg h=>rpRd.grow hg h) (fun args G r h=>?_)
 ·obtain ⟨v,rfl,_⟩:=h;simp
 ·obtain ⟨v,rfl,⟨rw_,ro,rfl,hrc⟩,hb⟩:=h
  obtain ⟨oa,on,oc,rfl,ho1,ho2⟩:=id hrc.o
  obtain ⟨wa,wn,wc,rfl,hw1,hw2⟩:=id hrc.w
  have hwn:=hw1.len
  have hon:=ho1.len
  have hwl:=hb.wl
  have hol:=hb.ol
  (conv=>whnf)
  refine LoopP.of { α:=Nat × List Raw × List Value,fr:=fun y=>[(1, .c (.ptr 0 0)),(2, .c (.ptr 1 0)),(3, .c (.ptr 5 0)),(4, .v (I y.1))],H:=fun y=>[(0, .cells .anon [.val (.slice wa wn wc), .val (.slice oa on oc), .val (I r.cols)] 25),(1, .cells .anon [.val (.slice none 0 0), .val (.slice none 0 0), .val (I 0)] 38),(5, .cells .anon [.row 3 y.1, .val (.slice none 0 0), .val (I r.cols)] 38),(3, .row none y.1 y.2.2 104 2)],ok:=fun y G=>y.1≤wn∧Row wdhE y.2.1 y.1 y.2.2∧∀ i (h:i < y.2.1.length) (h2:i < r.words.length),WdR G (wdhE.f y.2.1[i]) r.words[i],m:=fun y=>wn - y.1 }
   (0,[],[]) (HeadP.of [(3,none)] ⟨rfl,rfl,rfl,rfl,trivial⟩ ⟨rfl,rfl,rfl,rfl,trivial⟩) ⟨Nat.zero_le _,Row.nil,fun i h=>by simp at h⟩ (fun _=>⟨rfl,rfl⟩) (fun y G1 hg1 hx=>W.mk ?_)
  obtain ⟨i,L,vs⟩:=y
  obtain ⟨hi,hrow,hrd⟩:=hx
  dsimp only at hi hrow hrd
  have hLn:=hrow.n
  have hw3:SlR 2 WdR G1 wa wn wc r.words:=SlR.grow (fun _ _ h=>h.grow hg1) hw1 hg1
  dsimp only
  (conv=>whnf)
  refine IteP.mk (fun hlt=>W.mk ?_) (fun hge=>W.mk ?_)<;>(conv=>whnf)
  ·have hlt:i < r.words.length:=by omega
   obtain ⟨cs,_,hc,hv,rfl,ha,hn,hcc,rfl,hh1,hh2⟩:=SlR.cells hw3 hlt
   have hhb:=hb.w _ (List.getElem_mem hlt)
   generalize hwd:r.words[i] = w at hc hh1 hhb
   repeat' (first | (refine ob ?_ ?_;(first | trivial | omega | (simp only [inR];omega) | exact ble (by rfl) | exact SlR.some ‹_› (by omega));(conv=>whnf)) | (first | (refine ra ‹_› (by rfl) ?_;(conv=>whnf)) | (refine rb ‹_› (by rfl) ?_;(conv=>whnf)) | (refine rc ‹_› (by rfl) ?_;(conv=>whnf)) | (refine rd ‹_› (by rfl) ?_;(conv=>whnf))))
   refine RelP.g (ok1 (slRd intE) fun l=>l.length≤1000) (x:=w.heads) ⟨_,rfl,⟨_,_,_,rfl,hh1,hh2⟩,hhb⟩ (Grow.refl _) (fun v G2 hg2 hq=>W.mk ?_)
   obtain ⟨a1,n1,c1,rfl,_,_⟩:=id hq
   (conv=>whnf)
   repeat' (first | (refine OblP.mk rfl (W.mk ?_);(conv=>whnf)) | (refine ob ?_ ?_;(first | trivial | omega | (simp only [inR];omega) | exact ble (by rfl) | exact SlR.some ‹_› (by omega));(conv=>whnf)) | (first | (refine ra ‹_› (by rfl) ?_;(conv=>whnf)) | (refine rb ‹_› (by rfl) ?_;(conv=>whnf)) | (refine rc ‹_› (by rfl) ?_;(conv=>whnf)) | (refine rd ‹_› (by rfl) ?_;(conv=>whnf))))
   refine RoundP.of (i + 1,L++[(w.text,a1,n1,c1)],vs++[Value.string w.text,Value.slice a1 n1 c1]) (HeadP.of [(3,some 30)] ⟨rfl,rfl,rfl,rfl,trivial⟩ ⟨rfl,rfl,rfl,rfl,trivial⟩) ⟨by show i + 1≤wn;omega,hrow.snoc (w.text,a1,n1,c1),fun k k1 k2=>?_⟩ (by simp only;omega)
   dsimp only at k1 ⊢
   rw [List.getElem_append]
   split
   ·rename_i k3
    exact (hrd k k3 k2).grow hg2
   ·have hk:k = i:=by simp at k1;omega
    subst hk
    rw [hwd]
    simp only [List.getElem_singleton]
    exact ⟨_,rfl,hq⟩
  have hie:i = r.words.length:=by omega
  subst hie
  refine LoopP.of { α:=Nat × List Value,fr:=fun y=>[(1, .c (.ptr 0 0)),(2, .c (.ptr 1 0)),(3, .c (.ptr 5 0)),(5, .v (I y.1))],H:=fun y=>[(0, .cells .anon [.val (.slice wa wn wc), .val (.slice oa on oc), .val (I r.cols)] 25),(1, .cells .anon [.val (.slice none 0 0), .val (.slice none 0 0), .val (I 0)] 38),(5, .cells .anon [.row 3 r.words.length, .row 4 y.1, .val (I r.cols)] 38),(3, .row none r.words.length vs 104 2),(4, .row none y.1 y.2 65 4)],ok:=fun y G=>y.1≤on∧Row odE (r.orders.take y.1) y.1 y.2,m:=fun y=>on - y.1 }
   (0,[]) (HeadP.of [(4,none)] ⟨rfl,rfl,rfl,rfl,trivial⟩ ⟨rfl,rfl,rfl,rfl,rfl,trivial⟩) ⟨Nat.zero_le _,Row.nil⟩ (fun _=>⟨rfl,rfl⟩) (fun y G3 hg3 hx=>W.mk ?_)
  obtain ⟨k,us⟩:=y
  obtain ⟨hk,hrow2⟩:=hx
  dsimp only at hk hrow2
  dsimp only
  (conv=>whnf)
  refine IteP.mk (fun hlt=>W.mk ?_) (fun hge2=>W.mk ?_)<;>(conv=>whnf)
  ·have hlt:k < r.orders.length:=by omega
   have hc:=(SlR.grow (G:=G) (G':=G3) (fun _ _ h=>h) ho1 (hg1.trans hg3)).el hlt
   have htk:=take_snoc (List.getElem?_eq_getElem hlt)
   generalize r.orders[k] = o at hc htk
   have hc:CellsAt G3 (ab oa) (ao oa + k * 4) [I o.f,I o.t,I o.k,I o.u]:=hc
   repeat' (first | (refine OblP.mk rfl (W.mk ?_);(conv=>whnf)) | (refine ob ?_ ?_;(first | trivial | omega | (simp only [inR];omega) | exact ble (by rfl) | exact SlR.some ‹_› (by omega));(conv=>whnf)) | (first | (refine ra ‹_› (by rfl) ?_;(conv=>whnf)) | (refine rb ‹_› (by rfl) ?_;(conv=>whnf)) | (refine rc ‹_› (by rfl) ?_;(conv=>whnf)) | (refine rd ‹_› (by rfl) ?_;(conv=>whnf))))
   refine RoundP.of (k + 1,us++[I o.f,I o.t,I o.k,I o.u]) (HeadP.of [(4,some 61)] ⟨rfl,rfl,rfl,rfl,trivial⟩ ⟨rfl,rfl,rfl,rfl,rfl,trivial⟩) ⟨by show k + 1≤on;omega, ?_⟩ (by simp only;omega)
   dsimp only
   rw [htk]
   exact hrow2.snoc o
  have hke:k = r.orders.length:=by omega
  subst hke
  rw [List.take_length] at hrow2
  refine PubP.mk (fun a1 c1 G4 hg4 h4=>W.mk ?_)
  (conv=>whnf)
  refine PubP.mk (fun a2 c2 G5 hg5 h5=>W.mk ?_)
  (conv=>whnf)
  refine FinP.mk ⟨_,_,rfl, ?_,hrow2.pub h5 (by omega)⟩
  obtain ⟨_,_,_,q1,q2,q3⟩:=(hrow.pub h4 (by omega)).grow hg5
  cases q1
  refine ⟨_,_,_,rfl,SlR.conv q2 (by rw [hLn]) fun i j1 j2 cs hcs=>?_,q3⟩
  have hcs:cs = wdhE.f _:=hcs
  subst hcs
  exact (hrd i j1 j2).grow ((hg3.trans hg4).trans hg5)
end Go.Proofs.Ytpcpjmplgladmaa

namespace Go.Proofs.Ytpcpjmplgladmaa
open Go.Pal Go.RowKit
set_option maxRecDepth 100000
theorem sh_last (r:Rp) (x:Rx):∀ i:Nat,1≤i→shK r x i≠[]∧((shK r x i).getD ((shK r x i).length - 1) 0 = -1↔hidF r x ((i - 1:Nat):Int) = true)
 | i + 1,_=>by
  have snoc:∀ (l:List Int) (a:Int),(l++[a]).getD ((l++[a]).length - 1) 0 = a:=fun l a=>by simp
  simp only [shK,Nat.add_sub_cancel]
  by_cases h:hidF r x i = true
  ·rw [if_pos h]
   split
   ·rw [snoc];simp [h]
   ·rename_i h1
    simp only [not_or,Decidable.not_not] at h1
    exact ⟨fun e=>h1.1 (by rw [e];rfl),fun _=>h,fun _=>h1.2⟩
  ·rw [if_neg h,snoc]
   refine ⟨by simp, ?_⟩
   simp only [h]
   constructor
   ·intro e;omega
   ·intro e;cases e
theorem pc_sh (r:Rp) (x:Rx):∀ i:Nat,(pcK (rgOf r x) i).map (·.1) = shK r x i
 | 0=>rfl
 | i + 1=>by
  have ih:=pc_sh r x i
  have hlast:=sh_last r x i
  simp only [pcK,shK]
  show List.map _ (if hidF r x i = true then (if 0 < i∧hidF r x ((i - 1:Nat):Int) = true then _ else _) else _) = _
  by_cases h:hidF r x i = true
  ·rw [if_pos h,if_pos h]
   by_cases h0:0 < i
   ·obtain ⟨k1,k2⟩:=hlast h0
    have hl:(shK r x i).length≠0:=fun e=>k1 (List.eq_nil_of_length_eq_zero e)
    by_cases hp:hidF r x ((i - 1:Nat):Int) = true
    ·rw [if_pos ⟨h0,hp⟩,if_neg (fun e=>e.elim hl (fun e=>e (k2.2 hp))),ih]
    ·rw [if_neg (fun e=>hp e.2),if_pos (.inr fun e=>hp (k2.1 e)),List.map_append,ih];rfl
   ·have:i = 0:=by omega
    subst this
    rfl
  ·rw [if_neg h,if_neg h,List.map_append,ih];rfl
theorem pcF_sh (r:Rp) (x:Rx):(pcF (rgOf r x)).map (·.1) = shF r x:=pc_sh r x _
theorem pcK_at (g:Rg):∀ (i k:Nat) (e:Int × Pc),(pcK g i)[k]? = some e→e.2.col = (k:Int) / g.r.cols + 1∧e.2.text = if e.1 = -1 then noText else (g.r.words.getD e.1.toNat ⟨noText,[]⟩).text
 | 0,k,e,h=>by simp [pcK] at h
 | i + 1,k,e,h=>by
  have ih:=pcK_at g i k e
  have app:∀ e':Int × Pc,(e'.2.col = ((pcK g i).length:Int) / g.r.cols + 1∧e'.2.text = if e'.1 = -1 then noText else (g.r.words.getD e'.1.toNat ⟨noText,[]⟩).text)→(pcK g i++[e'])[k]? = some e→e.2.col = (k:Int) / g.r.cols + 1∧e.2.text = if e.1 = -1 then noText else (g.r.words.getD e.1.toNat ⟨noText,[]⟩).text:=fun e' he hk=>by
   by_cases h1:k < (pcK g i).length
   ·rw [List.getElem?_append_left h1] at hk;exact ih hk
   ·have h2:=(List.getElem?_eq_some_iff.1 hk).1
    have h2:k = (pcK g i).length:=by simp at h2;omega
    subst h2
    simp at hk
    subst hk
    exact he
  simp only [pcK] at h
  by_cases hp:g.p i = true
  ·rw [if_pos hp] at h
   by_cases h2:0 < i∧g.p (i - 1) = true
   ·rw [if_pos h2] at h;exact ih h
   ·rw [if_neg h2] at h
    exact app (-1,⟨noText,(pcK g i).length / g.r.cols + 1⟩) ⟨rfl,by simp⟩ h
  ·rw [if_neg hp] at h
   exact app ((i:Int),⟨(g.r.words.getD i ⟨noText,[]⟩).text,(pcK g i).length / g.r.cols + 1⟩) ⟨rfl,by rw [if_neg (by show ¬ (i:Int) = -1;omega)];rfl⟩ h
theorem fine_ok {r:Rp} (h:Fine r):RpOk r:=⟨fun o ho=>by have:=h.o o ho;have:=h.wl;omega,by have:=h.wl;omega⟩
def tabRf:Tab Try.prog:=Tab.cons 33 _ shown33 body33 tabC
theorem look34:Sound Try.prog 34 id (grel (args2 rpRd rxRd fun r _=>Fine r) fun p v G=>SlV pcE G v (lookF p.1 p.2)):=by
 refine comp34.grel tabRf (ok2 _ _ _) (fun args G s h=>?_) (fun x v G G' hg h=>h.grow hg) (fun args G p h=>?_)
 ·obtain ⟨v,w,rfl,_⟩:=h;simp
 ·obtain ⟨r,x⟩:=p
  obtain ⟨u,v,rfl,hr,hx,hf⟩:=h
  dsimp only at hr hx hf
  obtain ⟨rw_,ro,rfl,hrc⟩:=id hr
  obtain ⟨m,rfl,hm⟩:=id hx
  obtain ⟨oa,on,oc,rfl,ho1,ho2⟩:=id hrc.o
  obtain ⟨wa,wn,wc,rfl,hw1,hw2⟩:=id hrc.w
  obtain ⟨ma,mn,mc,rfl,hm1,hm2⟩:=id hm
  have hwn:=hw1.len
  have hcl:=hf.c
  have hwl:=hf.wl
  have hplen:=pcF_len (rgOf r x)
  have hplen:(pcF (rgOf r x)).length≤r.words.length:=hplen
  dsimp only
  (conv=>whnf)
  refine RelP.g (ok2 rpRd rxRd fun r _=>RpOk r) (x:=(r,x)) ⟨_,_,rfl,hr,hx,fine_ok hf⟩ (Grow.refl _) (fun v G1 hg1 hq=>W.mk ?_)
  dsimp only at hq
  rw [← pcF_sh] at hq
  obtain ⟨sa,sn,sc,rfl,hs1,hs2⟩:=hq
  have hsn:=hs1.len
  rw [List.length_map] at hsn
  (conv=>whnf)
  refine LoopP.of { α:=Nat × List Value,fr:=fun y=>[(2, .c (.ptr 0 0)),(5, .c (.row 3 y.1)),(6, .v (.slice sa sn sc)),(7, .v (I y.1))],H:=fun y=>[(0, .cells .anon [.val (.slice wa wn wc), .val (.slice oa on oc), .val (I r.cols)] 25),(3, .row none y.1 y.2 78 2)],ok:=fun y G=>y.1≤sn∧Row pcE ((lookF r x).take y.1) y.1 y.2,m:=fun y=>sn - y.1 }
   (0,[]) (HeadP.of [(3,none)] ⟨rfl,rfl,rfl,rfl,trivial⟩ ⟨rfl,rfl,trivial⟩) ⟨Nat.zero_le _,Row.nil⟩ (fun _=>⟨rfl,rfl⟩) (fun y G2 hg2 hx2=>W.mk ?_)
  obtain ⟨i,vs⟩:=y
  obtain ⟨hi,hrow⟩:=hx2
  dsimp only at hi hrow
  dsimp only
  (conv=>whnf)
  refine IteP.mk (fun hlt=>W.mk ?_) (fun hge=>W.mk ?_)<;>(conv=>whnf)
  ·have hlt:i < (pcF (rgOf r x)).length:=by omega
   have hcol:inR .i64 ((i:Int) / r.cols)∧inR .i64 ((i:Int) / r.cols + 1):=by
    have h1:=Int.ediv_nonneg (show (0:Int)≤i by omega) (show 0≤r.cols by omega)
    have h2:(i:Int) / r.cols≤i:=Int.ediv_le_self _ (by omega)
    simp only [inR];omega
   have hc:=(SlR.grow (G:=G1) (G':=G2) (fun _ _ h=>h) hs1 hg2).el (i:=i) (by simpa using hlt)
   rw [List.getElem_map] at hc
   obtain ⟨k1,k2⟩:=pcK_at (rgOf r x) _ i _ (List.getElem?_eq_getElem hlt)
   have htk:(lookF r x).take (i + 1) = (lookF r x).take i++[(pcF (rgOf r x))[i].2]:=by
    rw [lookF];exact take_snoc (by simp [hlt])
   have hmem:=pcK_mem (rgOf r x) _ _ (List.getElem_mem hlt)
   have k1:(pcF (rgOf r x))[i].2.col = (i:Int) / r.cols + 1:=k1
   have k2:(pcF (rgOf r x))[i].2.text = if (pcF (rgOf r x))[i].1 = -1 then noText else (r.words.getD (pcF (rgOf r x))[i].1.toNat ⟨noText,[]⟩).text:=k2
   have hmem:(pcF (rgOf r x))[i].1 = -1∨∃ j:Nat,j < r.words.length∧(pcF (rgOf r x))[i].1 = j:=hmem
   generalize (pcF (rgOf r x))[i] = e at hc k1 k2 htk hmem
   obtain ⟨sh,tx,cl⟩:=e
   dsimp only at hc k1 k2 hmem
   subst k1
   repeat' (first | (refine ob ?_ ?_;(first | trivial | omega | (simp only [inR];omega) | exact ble (by rfl) | exact SlR.some ‹_› (by omega));(conv=>whnf)) | (first | (refine ra ‹_› (by rfl) ?_;(conv=>whnf)) | (refine rb ‹_› (by rfl) ?_;(conv=>whnf)) | (refine rc ‹_› (by rfl) ?_;(conv=>whnf)) | (refine rd ‹_› (by rfl) ?_;(conv=>whnf))) | (refine OblP.mk ⟨by omega,by omega,by simp only [inR];omega⟩ (W.mk ?_);(conv=>whnf)) | (refine OblP.mk hcol.2 (W.mk ?_);(conv=>whnf)))
   rcases hmem with rfl | ⟨j,hj,rfl⟩
   ·rw [if_pos rfl] at k2
    subst k2
    refine IteP.mk (fun h5=>by exfalso;omega) (fun _=>W.mk ?_)
    (conv=>whnf)
    repeat' (first | (refine OblP.mk rfl (W.mk ?_);(conv=>whnf)) | (refine ob ?_ ?_;(first | trivial | omega | (simp only [inR];omega) | exact ble (by rfl) | exact SlR.some ‹_› (by omega));(conv=>whnf)) | (first | (refine ra ‹_› (by rfl) ?_;(conv=>whnf)) | (refine rb ‹_› (by rfl) ?_;(conv=>whnf)) | (refine rc ‹_› (by rfl) ?_;(conv=>whnf)) | (refine rd ‹_› (by rfl) ?_;(conv=>whnf))))
    refine RoundP.of (i + 1,vs++[Value.string noText,I ((i:Int) / r.cols + 1)]) (HeadP.of [(3,some 40)] ⟨rfl,rfl,rfl,rfl,trivial⟩ ⟨rfl,rfl,trivial⟩) ⟨by show i + 1≤sn;omega, ?_⟩ (by simp only;omega)
    dsimp only
    rw [htk]
    exact hrow.snoc _
   ·rw [if_neg (by omega)] at k2
    have hgd:r.words.getD ((j:Nat):Int).toNat ⟨noText,[]⟩ = r.words[j]:=by simp [hj]
    rw [hgd] at k2
    subst k2
    obtain ⟨cs,_,hcw,hv,rfl,ha,hn,hcc,rfl,hh1,hh2⟩:=SlR.cells (SlR.grow (fun _ _ h=>h.grow (hg1.trans hg2)) hw1 (hg1.trans hg2)) hj
    generalize r.words[j].text = tx at hcw htk
    refine IteP.mk (fun _=>W.mk ?_) (fun h5=>by exfalso;omega)
    (conv=>whnf)
    repeat' (first | (refine OblP.mk rfl (W.mk ?_);(conv=>whnf)) | (refine ob ?_ ?_;(first | trivial | omega | (simp only [inR];omega) | exact ble (by rfl) | exact SlR.some ‹_› (by omega));(conv=>whnf)) | (first | (refine ra ‹_› (by rfl) ?_;(conv=>whnf)) | (refine rb ‹_› (by rfl) ?_;(conv=>whnf)) | (refine rc ‹_› (by rfl) ?_;(conv=>whnf)) | (refine rd ‹_› (by rfl) ?_;(conv=>whnf))))
    refine RoundP.of (i + 1,vs++[Value.string tx,I ((i:Int) / r.cols + 1)]) (HeadP.of [(3,some 40)] ⟨rfl,rfl,rfl,rfl,trivial⟩ ⟨rfl,rfl,trivial⟩) ⟨by show i + 1≤sn;omega, ?_⟩ (by simp only;omega)
    dsimp only
    rw [htk]
    exact hrow.snoc _
  ·have hie:i = (pcF (rgOf r x)).length:=by omega
   subst hie
   have hll:(lookF r x).take (pcF (rgOf r x)).length = lookF r x:=List.take_of_length_le (by rw [lookF,List.length_map];exact Nat.le_refl _)
   rw [hll] at hrow
   refine PubP.mk (fun a1 c1 G3 hg3 hp=>W.mk ?_)
   (conv=>whnf)
   exact FinP.mk (hrow.pub hp (by omega))
end Go.Proofs.Ytpcpjmplgladmaa

/- Layer 9: the law VeilLooks. -/
 namespace Go.Proofs.Ytpcpjmplgladmaa
open Go.Pal Go.RowKit
set_option maxRecDepth 100000
def tabLw:Tab Try.prog:=Tab.cons 13 _ few13 body13 (Tab.cons 14 _ wakes14 body14 (Tab.cons 16 _ report16 body16 (Tab.cons 17 _ reader17 body17 (Tab.cons 18 _ faultL18 body18 (Tab.cons 28 _ look28 body28 (Tab.cons 30 _ check30 body30 (Tab.cons 31 _ find31 body31 (Tab.cons 32 _ fault32 body32 (Tab.cons 33 _ shown33 body33 (Tab.cons 34 _ look34 body34 (Tab.cons 29 _ pieces29 body29 (Tab.cons 15 _ index15 body15 (Tab.cons 21 _ closed21 body21 (Tab.cons 23 _ ready23 body23 (Tab.cons 35 _ hidden35 body35 (Tab.cons 24 _ has24 body24 (Tab.cons 20 _ entries20 body20 (Tab.cons 37 _ fewest37 body37 (Tab.cons 38 _ ints38 body38 (Tab.cons 27 _ list27 body27 (Tab.cons 41 _ holds41 body41 (Tab.nil _))))))))))))))))))))))
end Go.Proofs.Ytpcpjmplgladmaa

namespace Go.Proofs.Ytpcpjmplgladmaa
open Go.Pal Go.RowKit
set_option maxRecDepth 100000
abbrev hp0:Hp:=fun _=>none
structure RpH (p G:Hp) (w o:Value) (r:Rp):Prop where
 w:∃ raws,RowH wdhE 104 p w raws∧raws.length = r.words.length∧∀ i (h:i < raws.length) (h2:i < r.words.length),WdR G (wdhE.f raws[i]) r.words[i]
 o:RowH odE 65 p o r.orders
theorem RpH.grow {p G G':Hp} {w o:Value} {r:Rp} (hg:Grow G G') (h:RpH p G w o r):RpH p G' w o r:=by
 obtain ⟨⟨raws,h1,h2,h3⟩,h4⟩:=h
 exact ⟨⟨raws,h1,h2,fun i k1 k2=>(h3 i k1 k2).grow hg⟩,h4⟩
theorem RpH.rd {p G G1:Hp} {w o:Value} {r:Rp} (h:RpH p G w o r) (hg:Grow G G1) (hp:∀ b o,p b = some o→G1 b = some o) (hwl:r.words.length≤1000) (hol:r.orders.length≤1000):RpV G1 (.agg #[w,o,I r.cols]) r:=by
 obtain ⟨⟨raws,h1,h2,h3⟩,h4⟩:=h
 obtain ⟨a,n,c,rfl,q2,q3⟩:=h1.slV hp (by omega)
 refine ⟨_,_,rfl,⟨⟨_,_,_,rfl,SlR.conv q2 (by rw [h2]) fun i j1 j2 cs hcs=>?_,q3⟩,h4.slV hp (by omega)⟩⟩
 have hcs:cs = wdhE.f _:=hcs
 subst hcs
 exact (h3 i j1 j2).grow hg
set_option maxHeartbeats 1000000 in
theorem report16h (r:Rp):Sound Try.prog 16 id (.hp (fun args p G=>p = hp0∧args1 rpRd Repo args G r) fun _ _ v p' G'=>∃ w o,v = .agg #[w,o,I r.cols]∧RpH p' G' w o r):=by
 refine compH16.hp (Tab.cons 27 _ list27 body27 (Tab.nil _)) (fun args p G h=>?_) (fun args p v p' G G' hg ⟨w,o,h1,h2⟩=>⟨w,o,h1,h2.grow hg⟩) (fun args p G h=>?_)
 ·obtain ⟨_,v,rfl,_⟩:=h;simp
 ·obtain ⟨rfl,v,rfl,⟨rw_,ro,rfl,hrc⟩,hb⟩:=h
  obtain ⟨oa,on,oc,rfl,ho1,ho2⟩:=id hrc.o
  obtain ⟨wa,wn,wc,rfl,hw1,hw2⟩:=id hrc.w
  have hwn:=hw1.len
  have hon:=ho1.len
  have hwl:=hb.wl
  have hol:=hb.ol
  (conv=>whnf)
  refine LoopP.of { α:=Nat × Hp × Value × List Raw,fr:=fun y=>[(1, .c (.ptr 1000 0)),(2, .c (.ptr 1001 0)),(3, .c (.ptr 1005 0)),(4, .v (I y.1))],H:=fun y=>[(0, .heap y.2.1),(1000, .cells .anon [.val (.slice wa wn wc), .val (.slice oa on oc), .val (I r.cols)] 25),(1001, .cells .anon [.val (.slice none 0 0), .val (.slice none 0 0), .val (I 0)] 38),(1005, .cells .anon [.val y.2.2.1, .val (.slice none 0 0), .val (I r.cols)] 38)],ok:=fun y G=>y.1≤wn∧RowH wdhE 104 y.2.1 y.2.2.1 y.2.2.2∧y.2.2.2.length = y.1∧∀ i (h:i < y.2.2.2.length) (h2:i < r.words.length),WdR G (wdhE.f y.2.2.2[i]) r.words[i],m:=fun y=>wn - y.1 }
   (0,hp0, .slice none 0 0,[]) (HeadP.of [] ⟨rfl,rfl,rfl,rfl,trivial⟩ ⟨rfl,rfl,rfl,rfl,trivial⟩) ⟨Nat.zero_le _,RowH.nil,rfl,fun i h=>by simp at h⟩ (fun _=>⟨rfl,rfl⟩) (fun y G1 hg1 hx=>W.mk ?_)
  obtain ⟨i,q,wv,L⟩:=y
  obtain ⟨hi,hrow,hLn,hrd⟩:=hx
  dsimp only at hi hrow hrd hLn
  have hw3:SlR 2 WdR G1 wa wn wc r.words:=SlR.grow (fun _ _ h=>h.grow hg1) hw1 hg1
  dsimp only
  (conv=>whnf)
  refine IteP.mk (fun hlt=>W.mk ?_) (fun hge=>W.mk ?_)<;>(conv=>whnf)
  ·have hlt:i < r.words.length:=by omega
   obtain ⟨cs,_,hc,hv,rfl,ha,hn,hcc,rfl,hh1,hh2⟩:=SlR.cells hw3 hlt
   have hhb:=hb.w _ (List.getElem_mem hlt)
   generalize hwd:r.words[i] = w at hc hh1 hhb
   repeat' (first | (refine OblP.mk rfl (W.mk ?_);(conv=>whnf)) | (refine ob ?_ ?_;(first | trivial | omega | (simp only [inR];omega) | exact ble (by rfl) | exact SlR.some ‹_› (by omega));(conv=>whnf)) | (refine RdhP.g ‹_› (by rfl) (W.mk ?_);(conv=>whnf)) | (refine RdhP.g (CellsAt.drop (d:=0) (n:=1) ‹_›) (by rfl) (W.mk ?_);(conv=>whnf)) | (refine RdhP.g (CellsAt.drop (d:=1) (n:=1) ‹_›) (by rfl) (W.mk ?_);(conv=>whnf)))
   refine RelP.g (ok1 (slRd intE) fun l=>l.length≤1000) (x:=w.heads) ⟨_,rfl,⟨_,_,_,rfl,hh1,hh2⟩,hhb⟩ (Grow.refl _) (fun v G2 hg2 hq=>W.mk ?_)
   obtain ⟨a1,n1,c1,rfl,_,_⟩:=id hq
   (conv=>whnf)
   have hnext:∀ (q':Hp) (wv':Value),RowH wdhE 104 q' wv' (L++[(w.text,a1,n1,c1)])→i + 1≤wn∧RowH wdhE 104 q' wv' (L++[(w.text,a1,n1,c1)])∧(L++[(w.text,a1,n1,c1)]).length = i + 1∧∀ k (h:k < (L++[(w.text,a1,n1,c1)]).length) (h2:k < r.words.length),WdR G2 (wdhE.f (L++[(w.text,a1,n1,c1)])[k]) r.words[k]:=fun q' wv' h1=>⟨by omega,h1,by simp [hLn],fun k k1 k2=>by
    rw [List.getElem_append]
    split
    ·rename_i k3
     exact (hrd k k3 k2).grow hg2
    ·have hk:k = i:=by simp at k1;omega
     subst hk
     rw [hwd]
     simp only [List.getElem_singleton]
     exact ⟨_,rfl,hq⟩⟩
   rcases hrow with ⟨rfl,hl0⟩ | ⟨b,c',rest,rfl,hb',hr,hc',hm⟩
   ·subst hl0
    (conv=>whnf)
    refine OblP.mk rfl (W.mk ?_)
    (conv=>whnf)
    refine OblP.mk ⟨by omega,by omega⟩ (W.mk ?_)
    (conv=>whnf)
    refine AppnP.mk (fun b' cap rest' hb1 hb2 hb3 hb4=>W.mk ?_)
    (conv=>whnf)
    repeat' (first | (refine OblP.mk rfl (W.mk ?_);(conv=>whnf)) | (refine ob ?_ ?_;(first | trivial | omega | (simp only [inR];omega) | exact ble (by rfl) | exact SlR.some ‹_› (by omega));(conv=>whnf)))
    have hok:=hnext _ _ (RowH.appNew (t:=104) (p:=q) (b:=b') (c:=cap) (l:=[]) (us:=[(w.text,a1,n1,c1)]) (vs:=[]) (rest':=rest') rfl hb4 hb2 hb3)
    refine RoundP.of (i + 1,_,_,_) ?_ hok (by simp only;omega)
    exact HeadP.of [] ⟨rfl,rfl,rfl,rfl,trivial⟩ ⟨rfl,rfl,rfl,rfl,trivial⟩
   ·have hin:=fun hc2=>RowH.appIn (t:=104) (p:=q) (b:=b) (us:=[(w.text,a1,n1,c1)]) hr hc2 hm
    have hnw:=fun (b' cap:Nat) (rest':List Value)=>RowH.appNew (t:=104) (p:=q) (b:=b') (c:=cap) (l:=L) (us:=[(w.text,a1,n1,c1)]) (vs:=(flat wdhE L++rest).take (L.length * wdhE.k)) (rest':=rest') take_flat
    have hone:∀ u∈(flat wdhE L++rest).take (L.length * wdhE.k),u.oneCell' = true:=by rw [take_flat];exact flat_one _ _
    have hlen2:(flat wdhE L++rest).length = c' * 2:=by rw [List.length_append,flat_len,hr,show wdhE.k = 2 from rfl];omega
    (conv=>whnf)
    refine HpkP.mk ⟨_,104,hb',W.mk ?_⟩
    (conv=>whnf)
    refine OblP.mk ⟨rfl,rfl,hlen2,hc',hm,hone⟩ (W.mk ?_)
    (conv=>whnf)
    refine OblP.mk rfl (W.mk ?_)
    (conv=>whnf)
    refine OblP.mk ⟨by omega,by omega⟩ (W.mk ?_)
    (conv=>whnf)
    refine IteP.mk (fun hcap=>W.mk ?_) (fun hcap=>W.mk ?_)<;>(conv=>whnf)
    ·repeat' (first | (refine OblP.mk rfl (W.mk ?_);(conv=>whnf)) | (refine ob ?_ ?_;(first | trivial | omega | (simp only [inR];omega) | exact ble (by rfl) | exact SlR.some ‹_› (by omega));(conv=>whnf)))
     have hok:=hnext _ _ (hin (by simp only [List.length_singleton];omega))
     refine RoundP.of (i + 1,_,_,_) ?_ hok (by simp only;omega)
     exact HeadP.of [] ⟨rfl,rfl,rfl,rfl,trivial⟩ ⟨rfl,rfl,rfl,rfl,trivial⟩
    ·refine AppnP.mk (fun b' cap rest' hb1 hb2 hb3 hb4=>W.mk ?_)
     (conv=>whnf)
     repeat' (first | (refine OblP.mk rfl (W.mk ?_);(conv=>whnf)) | (refine ob ?_ ?_;(first | trivial | omega | (simp only [inR];omega) | exact ble (by rfl) | exact SlR.some ‹_› (by omega));(conv=>whnf)))
     have hok:=hnext _ _ (hnw b' cap rest' hb4 hb2 hb3)
     refine RoundP.of (i + 1,_,_,_) ?_ hok (by simp only;omega)
     exact HeadP.of [] ⟨rfl,rfl,rfl,rfl,trivial⟩ ⟨rfl,rfl,rfl,rfl,trivial⟩
  have hie:i = r.words.length:=by omega
  subst hie
  refine LoopP.of { α:=Nat × Hp × Value,fr:=fun y=>[(1, .c (.ptr 1000 0)),(2, .c (.ptr 1001 0)),(3, .c (.ptr 1005 0)),(5, .v (I y.1))],H:=fun y=>[(0, .heap y.2.1),(1000, .cells .anon [.val (.slice wa wn wc), .val (.slice oa on oc), .val (I r.cols)] 25),(1001, .cells .anon [.val (.slice none 0 0), .val (.slice none 0 0), .val (I 0)] 38),(1005, .cells .anon [.val wv, .val y.2.2, .val (I r.cols)] 38)],ok:=fun y G=>y.1≤on∧RowH wdhE 104 y.2.1 wv L∧RowH odE 65 y.2.1 y.2.2 (r.orders.take y.1),m:=fun y=>on - y.1 }
   (0,q, .slice none 0 0) (HeadP.of [] ⟨rfl,rfl,rfl,rfl,trivial⟩ ⟨rfl,rfl,rfl,rfl,trivial⟩) ⟨Nat.zero_le _,hrow,RowH.nil⟩ (fun _=>⟨rfl,rfl⟩) (fun y G3 hg3 hx=>W.mk ?_)
  clear hrow
  obtain ⟨k,q2,ov⟩:=y
  obtain ⟨hk,hrow,hrow2⟩:=hx
  dsimp only at hk hrow hrow2
  dsimp only
  (conv=>whnf)
  refine IteP.mk (fun hlt=>W.mk ?_) (fun hge2=>W.mk ?_)<;>(conv=>whnf)
  ·have hlt:k < r.orders.length:=by omega
   have hc:=(SlR.grow (G:=G) (G':=G3) (fun _ _ h=>h) ho1 (hg1.trans hg3)).el hlt
   have htk:=take_snoc (List.getElem?_eq_getElem hlt)
   generalize r.orders[k] = o at hc htk
   have hc:CellsAt G3 (ab oa) (ao oa + k * 4) [I o.f,I o.t,I o.k,I o.u]:=hc
   have hLk:(r.orders.take k).length = k:=by simp;omega
   generalize hL2:r.orders.take k = L2 at hrow2 hLk htk
   repeat' (first | (refine OblP.mk rfl (W.mk ?_);(conv=>whnf)) | (refine ob ?_ ?_;(first | trivial | omega | (simp only [inR];omega) | exact ble (by rfl) | exact SlR.some ‹_› (by omega));(conv=>whnf)) | (refine RdhP.g ‹_› (by rfl) (W.mk ?_);(conv=>whnf)) | (refine RdhP.g (CellsAt.drop (d:=0) (n:=1) ‹_›) (by rfl) (W.mk ?_);(conv=>whnf)) | (refine RdhP.g (CellsAt.drop (d:=1) (n:=1) ‹_›) (by rfl) (W.mk ?_);(conv=>whnf)))
   have hnext:∀ (q':Hp) (ov':Value),RowH wdhE 104 q' wv L→RowH odE 65 q' ov' (L2++[o])→k + 1≤on∧RowH wdhE 104 q' wv L∧RowH odE 65 q' ov' (r.orders.take (k + 1)):=fun q' ov' h1 h2=>⟨by omega,h1,by rw [htk];exact h2⟩
   have hofn:∀ {b':Nat} {ob:Option Obj},q2 b' = none→RowH wdhE 104 (upd q2 b' ob) wv L:=fun h=>hrow.mono fun b o _ e=>by rw [upd_other _ _ (fun he=>by rw [he,h] at e;cases e)];exact e
   rcases hrow2 with ⟨rfl,hl0⟩ | ⟨b,c',rest,rfl,hb',hr,hc',hm⟩
   ·subst hl0
    (conv=>whnf)
    refine OblP.mk rfl (W.mk ?_)
    (conv=>whnf)
    refine OblP.mk ⟨by omega,by omega⟩ (W.mk ?_)
    (conv=>whnf)
    refine AppnP.mk (fun b' cap rest' hb1 hb2 hb3 hb4=>W.mk ?_)
    (conv=>whnf)
    repeat' (first | (refine OblP.mk rfl (W.mk ?_);(conv=>whnf)) | (refine ob ?_ ?_;(first | trivial | omega | (simp only [inR];omega) | exact ble (by rfl) | exact SlR.some ‹_› (by omega));(conv=>whnf)))
    have hok:=hnext _ _ (hofn hb1) (RowH.appNew (t:=65) (p:=q2) (b:=b') (c:=cap) (l:=[]) (us:=[o]) (vs:=[]) (rest':=rest') rfl hb4 hb2 hb3)
    refine RoundP.of (k + 1,_,_) ?_ hok (by simp only;omega)
    exact HeadP.of [] ⟨rfl,rfl,rfl,rfl,trivial⟩ ⟨rfl,rfl,rfl,rfl,trivial⟩
   ·have hin:=fun hc2=>RowH.appIn (t:=65) (p:=q2) (b:=b) (us:=[o]) hr hc2 hm
    have hnw:=fun (b' cap:Nat) (rest':List Value)=>RowH.appNew (t:=65) (p:=q2) (b:=b') (c:=cap) (l:=L2) (us:=[o]) (vs:=(flat odE L2++rest).take (L2.length * odE.k)) (rest':=rest') take_flat
    have hone:∀ u∈(flat odE L2++rest).take (L2.length * odE.k),u.oneCell' = true:=by rw [take_flat];exact flat_one _ _
    have hlen2:(flat odE L2++rest).length = c' * 4:=by rw [List.length_append,flat_len,hr,show odE.k = 4 from rfl];omega
    have hofb:∀ {ob:Option Obj},RowH wdhE 104 (upd q2 b ob) wv L:=hrow.off fun e=>absurd (hrow.typ e hb') (by decide)
    (conv=>whnf)
    refine HpkP.mk ⟨_,65,hb',W.mk ?_⟩
    (conv=>whnf)
    refine OblP.mk ⟨rfl,rfl,hlen2,hc',hm,hone⟩ (W.mk ?_)
    (conv=>whnf)
    refine OblP.mk rfl (W.mk ?_)
    (conv=>whnf)
    refine OblP.mk ⟨by omega,by omega⟩ (W.mk ?_)
    (conv=>whnf)
    refine IteP.mk (fun hcap=>W.mk ?_) (fun hcap=>W.mk ?_)<;>(conv=>whnf)
    ·repeat' (first | (refine OblP.mk rfl (W.mk ?_);(conv=>whnf)) | (refine ob ?_ ?_;(first | trivial | omega | (simp only [inR];omega) | exact ble (by rfl) | exact SlR.some ‹_› (by omega));(conv=>whnf)))
     have hok:=hnext _ _ hofb (hin (by simp only [List.length_singleton];omega))
     refine RoundP.of (k + 1,_,_) ?_ hok (by simp only;omega)
     exact HeadP.of [] ⟨rfl,rfl,rfl,rfl,trivial⟩ ⟨rfl,rfl,rfl,rfl,trivial⟩
    ·refine AppnP.mk (fun b' cap rest' hb1 hb2 hb3 hb4=>W.mk ?_)
     (conv=>whnf)
     repeat' (first | (refine OblP.mk rfl (W.mk ?_);(conv=>whnf)) | (refine ob ?_ ?_;(first | trivial | omega | (simp only [inR];omega) | exact ble (by rfl) | exact SlR.some ‹_› (by omega));(conv=>whnf)))
     have hok:=hnext _ _ (hofn hb1) (hnw b' cap rest' hb4 hb2 hb3)
     refine RoundP.of (k + 1,_,_) ?_ hok (by simp only;omega)
     exact HeadP.of [] ⟨rfl,rfl,rfl,rfl,trivial⟩ ⟨rfl,rfl,rfl,rfl,trivial⟩
  have hke:k = r.orders.length:=by omega
  subst hke
  rw [List.take_length] at hrow2
  obtain ⟨wb,wcp,rfl⟩:=hrow.sl
  obtain ⟨ob',ocp,rfl⟩:=hrow2.sl
  (conv=>whnf)
  refine NmP.mk ⟨[],W.mk ?_⟩
  (conv=>whnf)
  exact FinHp.of rfl ⟨_,_,rfl,⟨L,hrow,hLn,fun i h h2=>(hrd i h h2).grow hg3⟩,hrow2⟩
end Go.Proofs.Ytpcpjmplgladmaa

namespace Go.Proofs.Ytpcpjmplgladmaa
open Go.Pal Go.RowKit
set_option maxRecDepth 100000
def butS (n i:Nat):Nat:=2 ^ n - 1 - 2 ^ i
def uslK (r:Rp) (x:Rx):Nat→List Int
 | 0=>[]
 | i + 1=>if holdsF (r.orders.getD i ⟨0,0,0,0⟩) x && sameF r x (butS r.orders.length i) then uslK r x i++[(i:Int)] else uslK r x i
def uslF (r:Rp) (x:Rx):List Int:=uslK r x r.orders.length
end Go.Proofs.Ytpcpjmplgladmaa
