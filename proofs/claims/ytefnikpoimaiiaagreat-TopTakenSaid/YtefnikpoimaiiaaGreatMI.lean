/- Layer 3: play, from outside; Play, CheckDraft. Layer 3: Play, CheckDraft. Layer 3: draft.sorted: slices.Sort, then slices.Compact: the kit's contracts laid at this program (the layings' numbers are printed by the kit's tool). Layer 3: the trace of an item with some sources. Layer 3: CheckDraft, Undoable. Layer 3: Undoable. Layer 3: numbers in order, each once; the sources of an item (plain). -/
import Derived.Test.YtefnikpoimaiiaaGreatMH
import Derived.Test.YtefnikpoimaiiaaGreatMD
import Derived.Shelf.Sort.Plain
import Derived.Shelf.Slices.CompactI
import Derived.Shelf.Slices.In.SortNone
import Derived.Test.YtefnikpoimaiiaaGreatMF
set_option linter.unusedSimpArgs false
set_option linter.unusedVariables false
namespace Go.Proofs.YtefnikpoimaiiaaGreat
open Go.Pal Go.RowKit
set_option maxRecDepth 100000
def drRd:Rd Dr:=⟨fun G v d=>∃ w k,v = .agg #[w,k]∧SlV woE G w d.ws∧SlV intE G k d.ks,fun {_ _ x y} ⟨w,k,h,h1,h2⟩ ⟨w',k',h',h1',h2'⟩=>by
  rw [h] at h';simp only [Value.agg.injEq,Array.mk.injEq,List.cons.injEq,and_true] at h'
  obtain ⟨rfl,rfl⟩:=h'
  have e1:=h1.uniq h1'
  have e2:=h2.uniq h2'
  cases x;cases y;simp_all,fun hg ⟨w,k,h,h1,h2⟩=>⟨w,k,h,h1.grow hg,h2.grow hg⟩⟩
theorem SpC.uniq {G:Hp} {cs:List Value} {x y:Sp} (h:SpC G cs x) (h':SpC G cs y):x = y:=by
 obtain ⟨pv,h1,h2⟩:=h
 obtain ⟨pv',h1',h2'⟩:=h'
 rw [h1] at h1'
 simp only [List.cons.injEq,Value.int.injEq,true_and,and_true] at h1'
 obtain ⟨e1,e2,e3,rfl⟩:=h1'
 have:=h2.uniq h2'
 cases x;cases y;simp_all
def spsRd:Rd (List Sp):=⟨fun G v l=>∃ a n c,v = .slice a n c∧SlR 4 SpC G a n c l∧n≤maxLen,fun ⟨a,n,c,h,h1,_⟩ ⟨a',n',c',h',h1',_⟩=>by
  rw [h] at h';cases h'
  exact h1.uniq (fun cs x y h h'=>SpC.uniq h h') h1',fun {G G' _ _} hg ⟨a,n,c,h,h1,h2⟩=>⟨a,n,c,h,SlR.grow (G:=G) (G':=G') (fun cs x h=>SpC.grow cs x hg h) h1 hg,h2⟩⟩
theorem Sound.relG {P:Program} {f:FuncId} {sh:List Value→List Value} {α:Type} {R:GRel α} {q:α→Value→Hp→Prop} (ok:GOk R) (hm:∀ x v G G',Grow G G'→q x v G→q x v G') (h:∀ x,Sound P f sh (.rel (fun args G=>R args G x) fun _ v G=>q x v G)):Sound P f sh (grel R q) :=
 ⟨fun args v G G' hg ⟨x,h1,h2⟩=>⟨x,ok.grow _ _ _ _ hg h1,hm _ _ _ _ hg h2⟩,fun args G W hsub ⟨x,hx⟩=>((h x).2 args G W hsub hx).mono fun e W' ⟨v,G',h1,h2,h3,h4⟩=>⟨v,G',h1,⟨x,ok.grow _ _ _ _ h3 hx,h2⟩,h3,h4⟩⟩
theorem cnt_play {d:Dr}:∀ {steps:List Sp} {S S':Sh} {i:Nat},S.cnt i→playF d S steps i = .inr S'→S'.cnt (i + steps.length)
 | [],S,S',i,h,e=>by cases e;exact h
 | x :: r,S,S',i,h,e=>by
  simp only [playF] at e
  split at e
  ·rename_i S1 hs
   have:=cnt_play (cnt_step h hs) e
   rw [List.length_cons]
   rw [show i + (r.length + 1) = i + 1 + r.length by omega];exact this
  ·cases e
theorem cnt_begin {d:Dr} (h:d.ws.length≤60):(beginS d).cnt 0:=⟨by show (beginIts _ _).length≤_;rw [beginIts_len];omega,Nat.zero_le _,Int.le_refl _,Int.le_refl _⟩
theorem valid_ws {d:Dr} (hv:validF d = true):d.ws.length≤60:=by
 simp only [validF,Bool.and_eq_true,decide_eq_true_eq] at hv
 exact hv.1.1
inductive End
 | arg
 | limit
 | fail (k:Nat)
 | ok (S:Sh)
def endF (d:Dr) (steps:List Sp):End:=if validF d = false then .arg else if 80 < steps.length then .limit else match playF d (beginS d) steps 0 with
 | .inl k=>.fail k
 | .inr S=>.ok S
theorem endF_small {d:Dr} {steps:List Sp} {S:Sh} (h:endF d steps = .ok S):S.cnt 80:=by
 unfold endF at h
 split at h
 ·cases h
 ·rename_i hv
  split at h
  ·cases h
  ·rename_i hl
   split at h
   ·cases h
   ·rename_i e
    cases h
    obtain ⟨h1,h2,h3,h4⟩:=cnt_play (cnt_begin (valid_ws (by simpa using hv))) e
    exact ⟨by omega,by omega,h3,by omega⟩
def playR (x:Dr × List Sp) (v:Value) (G:Hp):Prop:=match endF x.1 x.2 with
 | .arg=>v = .tuple #[.pointer none,I 0,I 1]
 | .limit=>v = .tuple #[.pointer none,I 0,I 3]
 | .fail k=>v = .tuple #[.pointer none,I k,I 9]
 | .ok S=>∃ b,v = .tuple #[ptr b,I 0,I 0]∧ShC G b x.1 S
abbrev dsR:GRel (Dr × List Sp):=args2 drRd spsRd fun _ _=>True
theorem playR.grow {x:Dr × List Sp} {v:Value} {G G':Hp} (hg:Grow G G') (h:playR x v G):playR x v G':=by
 unfold playR at *
 split<;>rename_i e<;>rw [e] at h<;>first | exact h | (obtain ⟨b,h1,h2⟩:=h;exact ⟨b,h1,h2.grow hg⟩)
theorem play42r:Sound Tryz.prog 57 id (grel dsR playR):=by
 refine Sound.relG (ok2 _ _ _) (fun x v G G' hg h=>h.grow hg) fun x=>?_
 obtain ⟨d,steps⟩:=x
 refine Sound.hpRel (play42 d steps) (fun args G h=>?_) (fun args v p' G' G'' hg hp h=>?_) (fun args v G G' hg h=>h.grow hg)
 ·obtain ⟨v,w,rfl,⟨w1,k1,rfl,h1,h2⟩,⟨a,n,c,rfl,h3,h4⟩,_⟩:=h
  exact ⟨w1,k1,a,n,c,rfl,h1,h2,h3,h4⟩
 ·have hq:=h.2
  unfold playR endF
  dsimp only
  split at hq
  ·rename_i hv;rw [if_pos hv];exact hq
  ·rename_i hv;rw [if_neg hv]
   split at hq
   ·rename_i hl;rw [if_pos hl];exact hq
   ·rename_i hl;rw [if_neg hl]
    split at hq
    ·rename_i e;rw [e];exact hq
    ·rename_i S e;rw [e]
     obtain ⟨b,h1,h2⟩:=hq
     refine ⟨b,h1,h2.pub hg hp ?_⟩
     have:=cnt_play (cnt_begin (valid_ws (by simpa using hv))) e
     exact this.small (by omega)
end Go.Proofs.YtefnikpoimaiiaaGreat

namespace Go.Proofs.YtefnikpoimaiiaaGreat
open Go.Pal Go.RowKit
set_option maxRecDepth 100000
structure Vi where
 t:ByteArray
 o:Int
 m:Int
def viE:El Vi:=⟨3,fun x=>[.string x.t,I x.o,I x.m],fun {x y} h=>by cases x;cases y;simp at h;obtain ⟨rfl,rfl,rfl⟩:=h;rfl,fun _=>rfl,fun _ v hv=>by simp at hv;rcases hv with rfl | rfl | rfl<;>rfl⟩
def It.vi (x:It):Vi:=⟨x.t,x.o,x.m⟩
def shownF (S:Sh):List Vi:=(placesF S.its).map fun i=>(S.its.getD i default).vi
def showR (x:Dr × List Sp) (v:Value) (G:Hp):Prop:=match endF x.1 x.2 with
 | .arg=>v = .tuple #[.slice none 0 0, .slice none 0 0,I 0,I 1]
 | .limit=>v = .tuple #[.slice none 0 0, .slice none 0 0,I 0,I 3]
 | .fail k=>v = .tuple #[.slice none 0 0, .slice none 0 0,I k,I 9]
 | .ok S=>∃ a b,v = .tuple #[a,b,I 0,I 0]∧SlV viE G a (shownF S)∧SlV intE G b S.live
theorem showR.grow {x:Dr × List Sp} {v:Value} {G G':Hp} (hg:Grow G G') (h:showR x v G):showR x v G':=by
 unfold showR at *
 split<;>rename_i e<;>rw [e] at h<;>first | exact h | (obtain ⟨a,b,h1,h2,h3⟩:=h;exact ⟨a,b,h1,h2.grow hg,h3.grow hg⟩)
end Go.Proofs.YtefnikpoimaiiaaGreat

namespace Go.Proofs.YtefnikpoimaiiaaGreat
open Go.Shelf
def sortA_ren:Go.Shelf.Ren:=⟨fun | 189=>126 | 125=>100 | 257=>184 | 128=>157 | 129=>158 | 294=>216 | 295=>217 | 296=>218 | 297=>219 | 298=>220 | 299=>221 | 216=>222 | 300=>223 | 301=>224 | 328=>244 | 329=>197 | 330=>198 | 331=>245 | 332=>246 | 215=>240 | 343=>253 | n=>n,fun | 28=>30 | 3=>3 | 46=>109 | 0=>0 | 51=>262 | 53=>264 | 4=>4 | 183=>255 | 182=>254 | 131=>259 | 5=>5 | 9=>9 | 218=>285 | 222=>289 | 228=>306 | 229=>307 | n=>n,fun | n=>n⟩
theorem sortA:Go.Proofs.Lays.n189 Tryz.prog sortA_ren:={
 mixed:=by kernel_rfl
 f125:=Tryz.func100.trans (congrArg some (by kernel_rfl))
 f128:=Tryz.func157.trans (congrArg some (by kernel_rfl))
 f129:=Tryz.func158.trans (congrArg some (by kernel_rfl))
 f189:=Tryz.func126.trans (congrArg some (by kernel_rfl))
 f215:=Tryz.func240.trans (congrArg some (by kernel_rfl))
 f216:=Tryz.func222.trans (congrArg some (by kernel_rfl))
 f257:=Tryz.func184.trans (congrArg some (by kernel_rfl))
 f294:=Tryz.func216.trans (congrArg some (by kernel_rfl))
 f295:=Tryz.func217.trans (congrArg some (by kernel_rfl))
 f296:=Tryz.func218.trans (congrArg some (by kernel_rfl))
 f297:=Tryz.func219.trans (congrArg some (by kernel_rfl))
 f298:=Tryz.func220.trans (congrArg some (by kernel_rfl))
 f299:=Tryz.func221.trans (congrArg some (by kernel_rfl))
 f300:=Tryz.func223.trans (congrArg some (by kernel_rfl))
 f301:=Tryz.func224.trans (congrArg some (by kernel_rfl))
 f328:=Tryz.func244.trans (congrArg some (by kernel_rfl))
 f329:=Tryz.func197.trans (congrArg some (by kernel_rfl))
 f330:=Tryz.func198.trans (congrArg some (by kernel_rfl))
 f331:=Tryz.func245.trans (congrArg some (by kernel_rfl))
 f332:=Tryz.func246.trans (congrArg some (by kernel_rfl))
 f343:=Tryz.func253.trans (congrArg some (by kernel_rfl))
 t0:=Tryz.underlying0
 a0:=Tryz.isAgg0
 z0:=Tryz.sizeOf0
 v0:=Tryz.zeroValue0
 t3:=Tryz.underlying3
 a3:=Tryz.isAgg3
 z3:=Tryz.sizeOf3
 v3:=Tryz.zeroValue3
 t4:=Tryz.underlying4
 a4:=Tryz.isAgg4
 z4:=Tryz.sizeOf4
 v4:=Tryz.zeroValue4
 t5:=Tryz.underlying5
 a5:=Tryz.isAgg5
 z5:=Tryz.sizeOf5
 v5:=Tryz.zeroValue5
 t9:=Tryz.underlying9
 a9:=Tryz.isAgg9
 z9:=Tryz.sizeOf9
 v9:=Tryz.zeroValue9
 t28:=Tryz.underlying30
 a28:=Tryz.isAgg30
 z28:=Tryz.sizeOf30
 v28:=Tryz.zeroValue30
 t46:=Tryz.underlying109
 a46:=Tryz.isAgg109
 z46:=Tryz.sizeOf109
 v46:=Tryz.zeroValue109
 t51:=Tryz.underlying262
 a51:=Tryz.isAgg262
 z51:=Tryz.sizeOf262
 v51:=Tryz.zeroValue262
 t53:=Tryz.underlying264
 a53:=Tryz.isAgg264
 z53:=Tryz.sizeOf264
 v53:=Tryz.zeroValue264
 t131:=Tryz.underlying259
 a131:=Tryz.isAgg259
 z131:=Tryz.sizeOf259
 v131:=Tryz.zeroValue259
 t182:=Tryz.underlying254
 a182:=Tryz.isAgg254
 z182:=Tryz.sizeOf254
 v182:=Tryz.zeroValue254
 t183:=Tryz.underlying255
 a183:=Tryz.isAgg255
 z183:=Tryz.sizeOf255
 v183:=Tryz.zeroValue255
 t218:=Tryz.underlying285
 a218:=Tryz.isAgg285
 z218:=Tryz.sizeOf285
 v218:=Tryz.zeroValue285
 t222:=Tryz.underlying289
 a222:=Tryz.isAgg289
 z222:=Tryz.sizeOf289
 v222:=Tryz.zeroValue289
 t228:=Tryz.underlying306
 a228:=Tryz.isAgg306
 z228:=Tryz.sizeOf306
 v228:=Tryz.zeroValue306
 t229:=Tryz.underlying307
 a229:=Tryz.isAgg307
 z229:=Tryz.sizeOf307
 v229:=Tryz.zeroValue307 }
def compactA_ren:Go.Shelf.Ren:=⟨fun | 20=>127 | n=>n,fun | 22=>30 | 3=>3 | 4=>4 | 0=>0 | n=>n,fun | n=>n⟩
theorem compactA:Go.Proofs.Lays2.n20 Tryz.prog compactA_ren:={
 mixed:=by kernel_rfl
 f20:=Tryz.func127.trans (congrArg some (by kernel_rfl))
 t0:=Tryz.underlying0
 a0:=Tryz.isAgg0
 z0:=Tryz.sizeOf0
 v0:=Tryz.zeroValue0
 t3:=Tryz.underlying3
 a3:=Tryz.isAgg3
 z3:=Tryz.sizeOf3
 v3:=Tryz.zeroValue3
 t4:=Tryz.underlying4
 a4:=Tryz.isAgg4
 z4:=Tryz.sizeOf4
 v4:=Tryz.zeroValue4
 t22:=Tryz.underlying30
 a22:=Tryz.isAgg30
 z22:=Tryz.sizeOf30
 v22:=Tryz.zeroValue30
 i3:=by kernel_rfl }
end Go.Proofs.YtefnikpoimaiiaaGreat
namespace Go.Proofs.YtefnikpoimaiiaaGreat
open Go.Pal Go.RowKit Go.Sort
set_option maxRecDepth 100000
theorem walk71 {v:Value} {W:World} {A R R':Ending→World→Prop} (h96:Calls Tryz.prog 126 #[v] W A) (hA:∀ e W1,A e W1→e = .returned (.tuple #[])∧Calls Tryz.prog 127 #[v] W1 R') (hR:∀ e W2,R' e W2→(∃ u,e = .returned u)∧R e W2):Calls Tryz.prog 90 #[v] W R:=by
 go_enter Tryz.func90,Tryz.ntmps90
 go_wp2_with (first
  | (go_at_call 126;refine h96.mono ?_;intro e w' ha;obtain ⟨rfl,h97⟩:=hA e w' ha)
  | (go_at_call 127;refine h97.mono ?_;intro e w' hr;obtain ⟨⟨u,rfl⟩,hu⟩:=hR e w' hr))
 exact hu
def sortF (l:List Int):List Int:=Lib.compact (l.mergeSort fun x y=>decide (x≤y))
def intOf:Value→Int
 | .int _ n=>n
 | _=>0
def srtPre (_:Nat) (vs us:List Value):Prop:=∃ l:List Int,vs = l.map I∧us = []∧l.length < 4611686018427387904
def srtRes (_:Nat) (vs _:List Value):Nat × List Value:=((sortF (vs.map intOf)).length,(sortF (vs.map intOf)).map I)
theorem put_at {d:Array Int} {cur:Array Value} {j:Nat} (hj:j < d.size) (hs:d.size≤cur.size):(putCells (Value.int .i64) 0 d cur)[j]? = some (I d[j]!):=by
 rw [putCells,Array.getElem?_mapIdx,Array.getElem?_eq_getElem (by omega)]
 simp only [Option.map_some,Nat.zero_le,Nat.zero_add,true_and,Nat.sub_zero]
 rw [if_pos hj]
theorem put_size {d:Array Int} {cur:Array Value}:(putCells (Value.int .i64) 0 d cur).size = cur.size:=by simp [putCells]
theorem put_row {W:World} {q g:Nat} {d:Array Int} {cur:Array Value} (hw:W.heap[g]? = some (.cells cur 3 (0,0))) (k:Nat):(putRow (Value.int .i64) (Sort.ahead W q) g 0 d).heap[k]? = if g = k then some (.cells (putCells (Value.int .i64) 0 d cur) 3 (0,0)) else W.heap[k]?:=by
 simp only [Sort.putRow,Sort.mapBlock,Sort.ahead,Array.getElem?_modify]
 by_cases hk:g = k
 ·subst hk;rw [if_pos rfl,if_pos rfl,hw];rfl
 ·rw [if_neg hk,if_neg hk]
theorem put_sizeH {W:World} {q g:Nat} {d:Array Int}:(putRow (Value.int .i64) (Sort.ahead W q) g 0 d).heap.size = W.heap.size:=by simp [Sort.putRow,Sort.mapBlock,Sort.ahead]
theorem grow_at {W:World} {os:Array Obj} {k:Nat} (h:k < W.heap.size):(Sort.grow W os).heap[k]? = W.heap[k]?:=by
 show (W.heap++os)[k]? = _
 rw [Array.getElem?_append_left h]
theorem holds_of {W:World} {g:Nat} {cur:Array Value} {d:Array Int} (hw:W.heap[g]? = some (.cells cur 3 (0,0))) (h:∀ j,j < d.size→cur[j]? = some (I d[j]!)):Holds (Value.int .i64) W g 0 d:=fun j hj=>by
 constructor
 ·simp [World.cell?,hw,h j hj]
 ·simp [World.frozen?,hw]
theorem intOf_I (l:List Int):(l.map I).map intOf = l:=by
 rw [List.map_map,show intOf ∘ I = id from rfl,List.map_id]
theorem compact_le (l:List Int):(Lib.compact l).length≤l.length:=by
 unfold Lib.compact
 unfold Lib.compactUpTo
 simp only [List.length_map]
 exact Nat.le_trans (List.length_filter_le _ _) (by simp)
theorem sorted71:Sound Tryz.prog 90 id (.cut 3 1 srtPre srtRes):=by
 intro v n vs us W hown hone hpre
 obtain ⟨l,rfl,rfl,hlim⟩:=hpre
 have hn:l.length = n:=by have:=hown.1;simpa using this
 have hres:srtRes n (l.map I) [] = ((sortF l).length,(sortF l).map I):=by simp only [srtRes,intOf_I]
 rw [hres]
 have hsl:(l.mergeSort fun x y=>decide (x≤y)).length = l.length:=List.length_mergeSort _
 have hcl:=compact_le (l.mergeSort fun x y=>decide (x≤y))
 have hone2:∀ u∈(sortF l).map I,u.oneCell' = true:=fun u hu=>by
  obtain ⟨x,_,rfl⟩:=List.mem_map.1 hu;rfl
 by_cases h0:n = 0
 ·subst h0
  have hl0:l = []:=List.eq_nil_of_length_eq_zero hn
  subst hl0
  obtain ⟨a,cap,rfl⟩:∃ a cap,v = .slice a 0 cap:=by
   rcases hown.2 with ⟨rfl,_⟩ | ⟨g,cap,cur,rfl,_⟩<;>exact ⟨_,_,rfl⟩
  refine walk71 (Any.slices_Sort_int_none sortA a cap W) (R':=fun e W2=>e = .returned (.slice a 0 cap)∧W2 = W) (fun e W1 h=>⟨h.1,by rw [h.2];exact Any.slices_Compact_int_empty compactA a cap W⟩) (fun e W2 h=>⟨⟨_,h.1⟩,_,h.1, ?_⟩)
  rw [h.2]
  have e0:sortF ([]:List Int) = []:=List.eq_nil_of_length_eq_zero (by rw [sortF];simp at hcl ⊢;exact hcl)
  rw [e0] at hone2 ⊢
  exact ⟨hown,hone2,⟨rfl,rfl,rfl,Nat.le_refl _,fun k _ _=>rfl⟩,fun g e=>.inr e⟩
 ·rcases hown.2 with ⟨_,h⟩ | ⟨g,cap,cur,rfl,_,hw,hnc,hcm,hsz,htake⟩
  ·exact absurd h h0
  simp only [Nat.mul_one] at hsz htake
  have hcur:∀ j,j < l.length→cur[j]? = some (I (l.getD j 0)):=fun j hj=>by
   have:(cur.toList.take n)[j]? = (l.map I)[j]?:=by rw [htake]
   rw [List.getElem?_take,if_pos (by omega)] at this
   rw [← Array.getElem?_toList,this,List.getElem?_map,List.getElem?_eq_getElem hj]
   simp [hj]
  have hH:Holds (Value.int .i64) W g 0 l.toArray:=holds_of hw fun j hj=>by
   have hj:j < l.length:=by simpa using hj
   rw [hcur j hj];simp [hj]
  have hg:=(Array.getElem?_eq_some_iff.1 hw).1
  have hmx:maxLen≤9223372036854775807:=Nat.le_of_ble_eq_true rfl
  generalize hs:(l.mergeSort fun x y=>decide (x≤y)) = s at *
  have hss:s.toArray.size≤cur.size:=by simp;omega
  have h96:=Any.slices_Sort_int sortA g 0 cap l W hH hg hlim
  rw [hn,hs] at h96
  refine walk71 h96 (R':=fun e W2=>e = .returned (.slice (some ⟨g,0,none⟩) (Lib.compact s).length cap)∧∃ q os q',W2 = putRow (Value.int .i64) (Sort.ahead (Sort.grow (putRow (Value.int .i64) (Sort.ahead W q) g 0 s.toArray) os) q') g 0 (Lib.compact s++List.replicate (s.length - (Lib.compact s).length) 0).toArray) (fun e W1 h=>⟨h.1, ?_⟩) (fun e W2 h=>⟨⟨_,h.1⟩,_,h.1, ?_⟩)
  ·obtain ⟨_,q,os,rfl⟩:=h
   have hw1:(Sort.grow (putRow (Value.int .i64) (Sort.ahead W q) g 0 s.toArray) os).heap[g]? = some (.cells (putCells (Value.int .i64) 0 s.toArray cur) 3 (0,0)):=by
    rw [grow_at (by rw [put_sizeH];exact hg),put_row hw,if_pos rfl]
   have:=Any.slices_Compact_int compactA g 0 cap s _ (holds_of hw1 fun j hj=>put_at hj hss) (by omega) (by omega)
   rw [hsl,hn] at this
   refine Calls.mono this fun e W2 h=>⟨h.1, ?_⟩
   obtain ⟨q',h2⟩:=h.2
   exact ⟨q,os,q',by rw [h2,hsl,hn]⟩
  ·obtain ⟨_,q,os,q',rfl⟩:=h
   have hw1:(Sort.grow (putRow (Value.int .i64) (Sort.ahead W q) g 0 s.toArray) os).heap[g]? = some (.cells (putCells (Value.int .i64) 0 s.toArray cur) 3 (0,0)):=by
    rw [grow_at (by rw [put_sizeH];exact hg),put_row hw,if_pos rfl]
   have hsF:sortF l = Lib.compact s:=by rw [sortF,hs]
   rw [hsF] at hone2 ⊢
   generalize Lib.compact s = c at *
   have hds:(c++List.replicate (s.length - c.length) 0).toArray.size = s.length:=by simp;omega
   refine ⟨⟨by simp, .inr ⟨g,cap,_,rfl,Nat.zero_le _,by rw [put_row hw1,if_pos rfl],by omega,hcm, ?_, ?_⟩⟩,hone2,⟨rfl,rfl,rfl, ?_, ?_⟩,fun k e=>.inr e⟩
   ·rw [put_size,put_size,hsz,Nat.mul_one]
   ·rw [Nat.mul_one]
    apply List.ext_getElem?
    intro j
    rw [List.getElem?_take]
    by_cases hj:j < c.length
    ·rw [if_pos hj,Array.getElem?_toList,put_at (by omega) (by rw [put_size];omega),List.getElem?_map,List.getElem?_eq_getElem hj]
     simp [hj,List.getElem?_append_left hj]
    ·rw [if_neg hj,List.getElem?_eq_none (by simp;omega)]
   ·rw [put_sizeH]
    show _≤(_++os).size
    rw [Array.size_append,put_sizeH];omega
   ·intro k hk hne
    have hgk:g≠k:=fun e=>hne (by rw [e];rfl)
    rw [put_row hw1,if_neg hgk,grow_at (by rw [put_sizeH];exact hk),put_row hw,if_neg hgk]
end Go.Proofs.YtefnikpoimaiiaaGreat

namespace Go.Proofs.YtefnikpoimaiiaaGreat
open Go.Pal Go.RowKit
set_option maxRecDepth 100000
theorem und23c:Tryz.prog.underlying 30 = some (.slice 3):=by kernel_rfl
theorem clone73:Sound Tryz.prog 80 id (gown 3 1 (args1 (slRd intE) fun l=>l.length≤8796093022207) fun l n vs=>Row intE l n vs):=by
 refine comp73.gown (Tab.nil _) (ok1 _ _) (fun args G s h=>?_) (fun args G l h=>?_)
 ·obtain ⟨v,rfl,_⟩:=h;simp
 ·obtain ⟨v,rfl,⟨a,n,c,rfl,hl,hn⟩,hb⟩:=h
  have hlen:=hl.len
  obtain ⟨q1,q2,q3⟩:=hl.all
  (conv=>whnf)
  refine PurP.of _ (pur_sl_nil und23c a n c 0 0) (W.mk ?_)
  (conv=>whnf)
  refine ForkP.mk (fun hf=>W.mk ?_) (fun hf=>W.mk ?_)<;>(conv=>whnf)
  ·refine OwnFin.mk ?_
   have:l = []:=by
    by_cases h0:n = 0
    ·exact List.eq_nil_of_length_eq_zero (by omega)
    ·have:=hl.some h0;rw [this] at hf;cases hf
   subst this;exact Row.nil
  ·refine OblP.mk (fun h=>hl.some h) (W.mk ?_);(conv=>whnf)
   refine RdP.at q1 q2 (W.mk ?_);(conv=>whnf)
   refine OblP.mk q3 (W.mk ?_);(conv=>whnf)
   refine OblP.mk rfl (W.mk ?_);(conv=>whnf)
   refine OblP.mk (by omega) (W.mk ?_);(conv=>whnf)
   refine OwnFin.mk ⟨rfl,rfl,rfl, ?_⟩
   simp only [Nat.zero_add,List.nil_append]
   exact Row.of_all l hlen
theorem flatI (l:List Int):(l.map fun x=>[I x]).flatten = l.map I:=by induction l<;>simp_all
structure Tr where
 src:List Int
 f:Int
 l:Int
 rep:List Int
def wordAt (d:Dr) (n:Int):Wo:=d.ws.getD n.toNat default
def fstN (d:Dr) (src:List Int) (i:Nat):Int:=if i = 0 then -1 else (wordAt d (src.getD 0 0)).s
def lstN (d:Dr) (src:List Int) (i:Nat):Int:=if i = 0 then -1 else (wordAt d (src.getD (i - 1) 0)).s
def repN (d:Dr) (src:List Int) (i:Nat):List Int:=(src.take i).map fun n=>(wordAt d n).r
def traceF (d:Dr) (src:List Int):Tr:=⟨src,fstN d src src.length,lstN d src src.length,sortF (repN d src src.length)⟩
def trRd:Rd Tr:=⟨fun G v t=>∃ a b,v = .agg #[a,I t.f,I t.l,b]∧SlV intE G a t.src∧SlV intE G b t.rep,fun {_ _ x y} ⟨a,b,h,h1,h2⟩ ⟨a',b',h',h1',h2'⟩=>by
  rw [h] at h';simp only [Value.agg.injEq,Array.mk.injEq,List.cons.injEq,Value.int.injEq,true_and,and_true] at h'
  obtain ⟨rfl,e1,e2,rfl⟩:=h'
  have e3:=h1.uniq h1'
  have e4:=h2.uniq h2'
  cases x;cases y;simp_all,fun hg ⟨a,b,h,h1,h2⟩=>⟨a,b,h,h1.grow hg,h2.grow hg⟩⟩
abbrev srcR:GRel (Dr × List Int):=args2 drRd (slRd intE) fun d l=>l.length≤100000∧∀ n∈l,0≤n∧n < d.ws.length
theorem trace45:Sound Tryz.prog 60 id (grel srcR fun x v G=>trRd.R G v (traceF x.1 x.2)):=by
 refine comp45.grel (Tab.cons 80 _ clone73 body73 (Tab.cons 90 _ sorted71 body71 (Tab.nil _))) (ok2 _ _ _) (fun args G s h=>?_) (fun x v G G' hg h=>trRd.grow hg h) (fun args G x h=>?_)
 ·obtain ⟨v,w,rfl,_⟩:=h;simp
 ·obtain ⟨d,src⟩:=x
  obtain ⟨_,_,rfl,⟨w,k,rfl,hw,hk⟩,hs,hsl,hin⟩:=h
  dsimp only at hw hk hs hsl hin
  obtain ⟨wa,wn,wc,rfl,hwl,hwn⟩:=id hw
  obtain ⟨ka,kn,kc,rfl,_,_⟩:=id hk
  obtain ⟨a,n,c,rfl,hl,hn⟩:=id hs
  have hlen:=hl.len
  have hwlen:=hwl.len
  (conv=>whnf)
  refine OwnP.g (ok1 (slRd intE) fun l=>l.length≤8796093022207) (x:=src) ⟨_,rfl,hs,by show src.length≤_;omega⟩ (Grow.refl _) (fun m0 vs0 G1 hg1 hr0=>W.mk ?_)
  (conv=>whnf)
  repeat' (refine ob ?_ ?_;(first | trivial | omega | (simp only [inR];omega) | exact ble (by rfl) | exact SlR.some ‹_› (by omega));(conv=>whnf))
  refine LoopP.of { α:=Nat × Int × Int × Nat × List Value,fr:=fun x=>[(2, .c (.ptr 0 0)),(4, .c (.ptr 1 0)),(5, .c (.ptr 5 0)),(12, .v (.slice a n c)),(13, .v (I n)),(14, .v (I x.1))],H:=fun x=>[(0, .cells .anon [.val (.slice wa wn wc), .val (.slice ka kn kc)] 84),(1, .cells .anon [.val (.slice none 0 0), .val (I 0), .val (I 0), .val (.slice none 0 0)] 89),(3, .row none m0 vs0 3 1),(5, .cells .anon [.row 3 m0, .val (I x.2.1), .val (I x.2.2.1), .row 8 x.2.2.2.1] 89),(8, .row none x.2.2.2.1 x.2.2.2.2 3 1)],ok:=fun x _=>x.1≤src.length∧x.2.1 = fstN d src x.1∧x.2.2.1 = lstN d src x.1∧Row intE (repN d src x.1) x.2.2.2.1 x.2.2.2.2,m:=fun x=>src.length - x.1 }
   (0,fstN d src 0,lstN d src 0,0,[]) (HeadP.of [(8,none)] ⟨rfl,rfl,rfl,rfl,rfl,rfl,trivial⟩ ⟨rfl,rfl,rfl,rfl,rfl,trivial⟩) ⟨Nat.zero_le _,rfl,rfl,Row.nil⟩ (fun _=>⟨rfl,rfl⟩) (fun x G2 hg2 hx=>W.mk ?_)
  obtain ⟨i,vf,vl,m,vs⟩:=x
  obtain ⟨hi,hvf,hvl,hr⟩:=hx
  dsimp only at hi hvf hvl hr
  dsimp only
  have hrn:=hr.n
  rw [repN,List.length_map,List.length_take] at hrn
  (conv=>whnf)
  refine IteP.mk (fun hlt=>W.mk ?_) (fun hge=>W.mk ?_)<;>(conv=>whnf)
  ·have h1:i < src.length:=by omega
   have hce:=(SlR.grow (G:=G) (G':=G2) (fun _ _ h=>h) hl (hg1.trans hg2)).el h1
   have hlo:=hin src[i] (List.getElem_mem h1)
   have hf1:fstN d src (i + 1) = if i = 0 then (wordAt d src[i]).s else fstN d src i:=by
    unfold fstN
    by_cases h0:i = 0
    ·subst h0;simp [h1]
    ·simp [h0]
   have hl1:lstN d src (i + 1) = (wordAt d src[i]).s:=by simp [lstN,h1]
   have hr1:repN d src (i + 1) = repN d src i++[(wordAt d src[i]).r]:=by
    rw [repN,List.take_add_one,List.getElem?_eq_getElem h1,List.map_append];rfl
   have hr2:=hr.snoc (wordAt d src[i]).r
   rw [← hr1] at hr2
   generalize src[i] = y at hce hlo hf1 hl1 hr1 hr2
   have hyw:y.toNat < d.ws.length:=by omega
   have hwe:=(SlR.grow (G:=G) (G':=G2) (fun _ _ h=>h) hwl (hg1.trans hg2)).el hyw
   have hwa:wordAt d y = d.ws[y.toNat]:=by simp [wordAt,hyw]
   rw [← hwa] at hwe
   generalize wordAt d y = wd at hwe hf1 hl1 hr1 hr2
   repeat' (first | (refine ob ?_ ?_;(first | trivial | omega | (simp only [inR];omega) | exact ble (by rfl) | exact SlR.some ‹_› (by omega));(conv=>whnf)) | (first | (refine ra ‹_› (by rfl) ?_;(conv=>whnf)) | (refine rb ‹_› (by rfl) ?_;(conv=>whnf)) | (refine rc ‹_› (by rfl) ?_;(conv=>whnf)) | (refine rd ‹_› (by rfl) ?_;(conv=>whnf))))
   refine IteP.mk (fun h0=>W.mk ?_) (fun h0=>W.mk ?_)<;>(conv=>whnf)
   ·repeat' (first | (refine ob ?_ ?_;(first | trivial | omega | (simp only [inR];omega) | exact ble (by rfl) | exact SlR.some ‹_› (by omega));(conv=>whnf)) | (first | (refine ra ‹_› (by rfl) ?_;(conv=>whnf)) | (refine rb ‹_› (by rfl) ?_;(conv=>whnf)) | (refine rc ‹_› (by rfl) ?_;(conv=>whnf)) | (refine rd ‹_› (by rfl) ?_;(conv=>whnf))))
    exact RoundP.of (i + 1,wd.s,wd.s,m + 1,_) (HeadP.of [(8,some 38)] ⟨rfl,rfl,rfl,rfl,rfl,rfl,trivial⟩ ⟨rfl,rfl,rfl,rfl,rfl,trivial⟩) ⟨h1,by rw [hf1,if_pos (by omega)],hl1.symm,hr2⟩ (by show src.length - (i + 1) < src.length - i;omega)
   ·repeat' (first | (refine ob ?_ ?_;(first | trivial | omega | (simp only [inR];omega) | exact ble (by rfl) | exact SlR.some ‹_› (by omega));(conv=>whnf)) | (first | (refine ra ‹_› (by rfl) ?_;(conv=>whnf)) | (refine rb ‹_› (by rfl) ?_;(conv=>whnf)) | (refine rc ‹_› (by rfl) ?_;(conv=>whnf)) | (refine rd ‹_› (by rfl) ?_;(conv=>whnf))))
    exact RoundP.of (i + 1,vf,wd.s,m + 1,_) (HeadP.of [(8,some 38)] ⟨rfl,rfl,rfl,rfl,rfl,rfl,trivial⟩ ⟨rfl,rfl,rfl,rfl,rfl,trivial⟩) ⟨h1,by rw [hf1,if_neg (by omega)];exact hvf,hl1.symm,hr2⟩ (by show src.length - (i + 1) < src.length - i;omega)
  ·have hin:i = src.length:=by omega
   subst hin
   repeat' (first | (refine ob ?_ ?_;(first | trivial | omega | (simp only [inR];omega) | exact ble (by rfl) | exact SlR.some ‹_› (by omega));(conv=>whnf)) | (first | (refine ra ‹_› (by rfl) ?_;(conv=>whnf)) | (refine rb ‹_› (by rfl) ?_;(conv=>whnf)) | (refine rc ‹_› (by rfl) ?_;(conv=>whnf)) | (refine rd ‹_› (by rfl) ?_;(conv=>whnf))))
   have hall:src.take src.length = src:=List.take_length
   have hvs:vs = (repN d src src.length).map I:=by
    rw [hr.vs]
    show ((repN d src src.length).map fun x=>[I x]).flatten = _
    exact flatI _
   refine OblP.mk ⟨rfl,repN d src src.length,hvs,rfl,by simp [repN];omega⟩ (W.mk ?_)
   (conv=>whnf)
   have hres:srtRes m vs [] = ((sortF (repN d src src.length)).length,(sortF (repN d src src.length)).map I):=by rw [srtRes,hvs,intOf_I]
   rw [hres]
   refine GiveP.mk (fun ga gc G3 hg3 hp=>W.mk ?_)
   have hsrt:SlV intE G3 (.slice ga (sortF (repN d src src.length)).length gc) (sortF (repN d src src.length)):=hp.slV (flatI _).symm rfl (by
    have:=compact_le ((repN d src src.length).mergeSort fun x y=>decide (x≤y))
    have h2:((repN d src src.length).mergeSort fun x y=>decide (x≤y)).length = _:=List.length_mergeSort _
    have h3:(repN d src src.length).length = src.length:=by simp [repN]
    show (Lib.compact _).length≤_
    omega)
   (conv=>whnf)
   repeat' (first | (refine ob ?_ ?_;(first | trivial | omega | (simp only [inR];omega) | exact ble (by rfl) | exact SlR.some ‹_› (by omega));(conv=>whnf)) | (first | (refine ra ‹_› (by rfl) ?_;(conv=>whnf)) | (refine rb ‹_› (by rfl) ?_;(conv=>whnf)) | (refine rc ‹_› (by rfl) ?_;(conv=>whnf)) | (refine rd ‹_› (by rfl) ?_;(conv=>whnf))))
   have hrn0:=hr0.n
   refine PubP.mk (fun pa pc G4 hg4 hp0=>W.mk ?_)
   (conv=>whnf)
   subst hvf;subst hvl
   exact FinP.mk ⟨_,_,rfl,hr0.pub hp0 (by omega),hsrt.grow hg4⟩
end Go.Proofs.YtefnikpoimaiiaaGreat

namespace Go.Proofs.YtefnikpoimaiiaaGreat
open Go.Pal Go.RowKit
set_option maxRecDepth 100000
end Go.Proofs.YtefnikpoimaiiaaGreat

namespace Go.Proofs.YtefnikpoimaiiaaGreat
open Go.Pal Go.RowKit
set_option maxRecDepth 100000
def undosF (S:Sh):List Int:=S.live.filter fun n=>undoableF S n
def undoR (x:Dr × List Sp) (v:Value) (G:Hp):Prop:=match endF x.1 x.2 with
 | .arg=>v = .tuple #[.slice none 0 0,I 1]
 | .limit=>v = .tuple #[.slice none 0 0,I 3]
 | .fail _=>v = .tuple #[.slice none 0 0,I 9]
 | .ok S=>∃ u,v = .tuple #[u,I 0]∧SlV intE G u (undosF S)
theorem undoR.grow {x:Dr × List Sp} {v:Value} {G G':Hp} (hg:Grow G G') (h:undoR x v G):undoR x v G':=by
 unfold undoR at *
 split<;>rename_i e<;>rw [e] at h<;>first | exact h | (obtain ⟨a,h1,h2⟩:=h;exact ⟨a,h1,h2.grow hg⟩)
end Go.Proofs.YtefnikpoimaiiaaGreat

namespace Go.Proofs.YtefnikpoimaiiaaGreat
open Go.Pal Go.RowKit
set_option maxRecDepth 100000
theorem pair_range (n:Nat):(List.range n).Pairwise (· < ·):=List.pairwise_lt_range
theorem compact_lt {l:List Int} (h:l.Pairwise (·≤·)):(Lib.compact l).Pairwise (· < ·):=by
 unfold Lib.compact Lib.compactUpTo
 rw [List.pairwise_map]
 have hp:((List.range l.length).filter (Lib.keeps l.toArray)).Pairwise (· < ·):=(pair_range _).filter _
 refine List.Pairwise.imp_of_mem (R:=(· < ·)) (fun {i j} hi hj hij=>?_) hp
 simp only [List.mem_filter,List.mem_range,Lib.keeps,decide_eq_true_eq] at hi hj
 obtain ⟨hi1,_⟩:=hi
 obtain ⟨hj1,hj2⟩:=hj
 have hne:l.toArray[j]!≠l.toArray[j - 1]!:=hj2.resolve_left (by omega)
 have g:∀ k,k < l.length→l.toArray[k]! = l.getD k 0:=fun k hk=>by simp [hk]
 have le:∀ a b,a≤b→b < l.length→l.getD a 0≤l.getD b 0:=fun a b h1 h2=>by
  rcases Nat.lt_or_eq_of_le h1 with h3 | h3
  ·have:=List.pairwise_iff_getElem.1 h a b (by omega) h2 h3
   simpa [h2,show a < l.length by omega] using this
  ·subst h3;exact Int.le_refl _
 rw [g i hi1,g j hj1]
 rw [g j hj1,g (j - 1) (by omega)] at hne
 have h1:=le i (j - 1) (by omega) (by omega)
 have h2:=le (j - 1) j (by omega) hj1
 omega
theorem compact_mem {l:List Int} {x:Int}:x∈Lib.compact l↔x∈l:=by
 unfold Lib.compact Lib.compactUpTo
 simp only [List.mem_map,List.mem_filter,List.mem_range,Lib.keeps,decide_eq_true_eq]
 have g:∀ k,k < l.length→l.toArray[k]! = l.getD k 0:=fun k hk=>by simp [hk]
 constructor
 ·rintro ⟨j,⟨hj,_⟩,rfl⟩
  rw [g j hj];simp [hj]
 ·intro hx
  obtain ⟨i,hi⟩:=List.getElem?_of_mem hx
  have key:∀ n i:Nat,i≤n→l[i]? = some x→∃ j,(j < l.length∧(j = 0∨l.toArray[j]!≠l.toArray[j - 1]!))∧l.toArray[j]! = x:=by
   intro n
   induction n with
   | zero =>
    intro i hi h
    have h0:i = 0:=by omega
    subst h0
    have hl:=(List.getElem?_eq_some_iff.1 h).1
    refine ⟨0,⟨hl, .inl rfl⟩, ?_⟩
    rw [g 0 hl,List.getD_eq_getElem?_getD,h];rfl
   | succ n ih =>
    intro i hi h
    have hl:=(List.getElem?_eq_some_iff.1 h).1
    by_cases h0:i = 0
    ·exact ih i (by omega) h
    ·by_cases he:l.toArray[i]! = l.toArray[i - 1]!
     ·refine ih (i - 1) (by omega) ?_
      rw [g i hl,g (i - 1) (by omega)] at he
      rw [List.getD_eq_getElem?_getD,h,List.getD_eq_getElem?_getD,List.getElem?_eq_getElem (show i - 1 < l.length by omega)] at he
      rw [List.getElem?_eq_getElem (show i - 1 < l.length by omega)]
      exact congrArg some he.symm
     ·refine ⟨i,⟨hl, .inr he⟩, ?_⟩
      rw [g i hl,List.getD_eq_getElem?_getD,h];rfl
  exact key i i (Nat.le_refl _) hi
theorem sortF_lt (l:List Int):(sortF l).Pairwise (· < ·):=by
 refine compact_lt ?_
 have:=List.pairwise_mergeSort (le:=fun x y:Int=>decide (x≤y)) (fun a b c h1 h2=>by simp only [decide_eq_true_eq] at *;omega) (fun a b=>by simp only [Bool.or_eq_true,decide_eq_true_eq];omega) l
 exact this.imp fun h=>of_decide_eq_true h
theorem sortF_mem {l:List Int} {x:Int}:x∈sortF l↔x∈l:=by
 rw [sortF,compact_mem,List.mem_mergeSort]
theorem incr_len {N:Nat}:∀ {l:List Int} {a:Int},l.Pairwise (· < ·)→(∀ x∈l,a≤x∧x < N)→a≤N→(l.length:Int)≤N - a
 | [],a,_,_,h=>by simp;omega
 | x :: r,a,hp,hx,h=>by
  obtain ⟨h1,h2⟩:=List.pairwise_cons.1 hp
  have hx0:=hx x (by simp)
  have:=incr_len (a:=x + 1) h2 (fun y hy=>⟨by have:=h1 y hy;omega,(hx y (by simp [hy])).2⟩) (by omega)
  simp only [List.length_cons]
  omega
theorem sortF_len {l:List Int} {N:Nat} (h:∀ x∈l,0≤x∧x < N):(sortF l).length≤N:=by
 have:=incr_len (sortF_lt l) (fun x hx=>h x (sortF_mem.1 hx)) (by omega)
 omega
/-! ### Sources -/
def WfI (N:Nat) (x:It):Prop:=(0≤x.o∧x.o < N)∨(x.o < 0∧1≤x.m∧(x.g = 0∨x.m < x.g))
def WfL (N:Nat) (L:List It):Prop:=∀ y∈L,WfI N y
def srcN (L:List It):Nat→Int→List Int
 | 0,_=>[]
 | f + 1,m=>sortF ((L.filter fun y=>decide (y.g = m)).flatMap fun y=>if 0≤y.o then [y.o] else srcN L f y.m)
def grpF (L:List It) (m:Int):List Int:=srcN L m.toNat m
def ofF (L:List It) (x:It):List Int:=if 0≤x.o then [x.o] else grpF L x.m
theorem flatMap_congr {α β:Type} {f g:α→List β}:∀ {l:List α},(∀ x∈l,f x = g x)→l.flatMap f = l.flatMap g
 | [],_=>rfl
 | x :: r,h=>by
  have h1:=flatMap_congr (l:=r) (fun y hy=>h y (List.mem_cons_of_mem _ hy))
  rw [List.flatMap_cons,List.flatMap_cons,h x (List.mem_cons_self ..),h1]
theorem srcN_stable {N:Nat} {L:List It} (hw:WfL N L):∀ (f f':Nat) (m:Int),1≤m→m.toNat≤f→m.toNat≤f'→srcN L f m = srcN L f' m
 | 0,_,m,h1,h2,_=>by omega
 | _ + 1,0,m,h1,_,h3=>by omega
 | f + 1,f' + 1,m,h1,h2,h3=>by
  simp only [srcN]
  congr 1
  refine flatMap_congr fun y hy=>?_
  obtain ⟨hy1,hy2⟩:=List.mem_filter.1 hy
  have hg:y.g = m:=of_decide_eq_true hy2
  split
  ·rfl
  ·rename_i ho
   rcases hw y hy1 with h | ⟨_,h4,h5⟩
   ·exact absurd h.1 ho
   ·exact srcN_stable hw f f' y.m h4 (by omega) (by omega)
theorem grpF_eq {N:Nat} {L:List It} (hw:WfL N L) {m:Int} (h:1≤m):grpF L m = sortF ((L.filter fun y=>decide (y.g = m)).flatMap (ofF L)):=by
 unfold grpF
 obtain ⟨k,hk⟩:∃ k,m.toNat = k + 1:=⟨m.toNat - 1,by omega⟩
 rw [hk]
 simp only [srcN]
 congr 1
 refine flatMap_congr fun y hy=>?_
 obtain ⟨hy1,hy2⟩:=List.mem_filter.1 hy
 have hg:y.g = m:=of_decide_eq_true hy2
 unfold ofF
 split
 ·rfl
 ·rename_i ho
  rcases hw y hy1 with h' | ⟨_,h4,h5⟩
  ·exact absurd h'.1 ho
  ·exact srcN_stable hw _ _ y.m h4 (by omega) (Nat.le_refl _)
theorem srcN_mem {N:Nat} {L:List It} (hw:WfL N L):∀ (f:Nat) (m:Int), ∀ x∈srcN L f m,0≤x∧x < N
 | 0,_,x,h=>by cases h
 | f + 1,m,x,h=>by
  simp only [srcN] at h
  obtain ⟨y,hy,hx⟩:=List.mem_flatMap.1 (sortF_mem.1 h)
  obtain ⟨hy1,_⟩:=List.mem_filter.1 hy
  split at hx
  ·rename_i ho
   simp at hx;subst hx
   rcases hw y hy1 with h' | ⟨h',_⟩
   ·exact h'
   ·omega
  ·exact srcN_mem hw f _ x hx
theorem ofF_mem {N:Nat} {L:List It} (hw:WfL N L) {y:It} (hy:WfI N y):∀ x∈ofF L y,0≤x∧x < N:=fun x hx=>by
 unfold ofF at hx
 split at hx
 ·rename_i ho
  simp at hx;subst hx
  rcases hy with h' | ⟨h',_⟩
  ·exact h'
  ·omega
 ·exact srcN_mem hw _ _ x hx
theorem ofF_len {N:Nat} {L:List It} (hw:WfL N L) {y:It} (hy:WfI N y):(ofF L y).length≤N + 1:=by
 unfold ofF
 split
 ·simp
 ·unfold grpF
  cases hk:y.m.toNat with
  | zero=>simp [srcN]
  | succ k =>
   have:=sortF_len (N:=N) (l:=(L.filter fun z=>decide (z.g = y.m)).flatMap fun y=>if 0≤y.o then [y.o] else srcN L k y.m) (fun x hx=>srcN_mem hw (k + 1) y.m x (sortF_mem.2 hx))
   simp only [srcN]
   omega
end Go.Proofs.YtefnikpoimaiiaaGreat
