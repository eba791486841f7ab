/- Layer 3: Traces from outside; lists of numbers and of texts compared; texts of items. Layer 3: the example of the chapter. Layer 3: awake. Layer 3: the reference: In, Has, Text, Texts, Visible, protected, May, without, undo, Begin. Layer 3: the reference: Visible, protected, May, without, undo, Begin. Layer 3: the reference: Right. -/
import Derived.Test.YtefnikpoimaiiaaGreatMJ
import Derived.Test.YtefnikpoimaiiaaGreatMI
import Derived.Test.YtefnikpoimaiiaaGreatMD
import Derived.Test.YtefnikpoimaiiaaGreatMC
set_option linter.unusedSimpArgs false
set_option linter.unusedVariables false
namespace Go.Proofs.YtefnikpoimaiiaaGreat
open Go.Pal Go.RowKit
set_option maxRecDepth 100000
def trsRd:Rd (List Tr):=⟨fun G v l=>∃ a n c,v = .slice a n c∧SlR 4 TrC G a n c l∧n≤maxLen,fun ⟨a,n,c,h,h1,_⟩ ⟨a',n',c',h',h1',_⟩=>by
  rw [h] at h';cases h'
  refine h1.uniq (fun cs x y ⟨a,b,e,h1,h2⟩ ⟨a',b',e',h1',h2'⟩=>?_) h1'
  rw [e] at e'
  simp only [List.cons.injEq,Value.int.injEq,true_and,and_true] at e'
  obtain ⟨rfl,e1,e2,rfl⟩:=e'
  have e3:=h1.uniq h1'
  have e4:=h2.uniq h2'
  cases x;cases y;simp_all,fun {G G' _ _} hg ⟨a,n,c,h,h1,h2⟩=>⟨a,n,c,h,SlR.grow (G:=G) (G':=G') (fun cs x ⟨a,b,e,h1,h2⟩=>⟨a,b,e,h1.grow hg,h2.grow hg⟩) h1 hg,h2⟩⟩
def tracesR (x:Dr × List Sp) (v:Value) (G:Hp):Prop:=match endF x.1 x.2 with
 | .arg=>v = .tuple #[.slice none 0 0, .slice none 0 0,I 1]
 | .limit=>v = .tuple #[.slice none 0 0, .slice none 0 0,I 3]
 | .fail _=>v = .tuple #[.slice none 0 0, .slice none 0 0,I 9]
 | .ok S=>∃ u b,v = .tuple #[u,b,I 0]∧trsRd.R G u (tracesF x.1 S)∧SlV intE G b (lostF x.1 S)
theorem tracesR.grow {x:Dr × List Sp} {v:Value} {G G':Hp} (hg:Grow G G') (h:tracesR x v G):tracesR x v G':=by
 unfold tracesR at *
 split<;>rename_i e<;>rw [e] at h<;>first | exact h | (obtain ⟨u,b,h1,h2,h3⟩:=h;exact ⟨u,b,h1,trsRd.grow hg h2,h3.grow hg⟩)
theorem traces16:Sound Tryz.prog 25 id (grel dsR tracesR):=by
 refine Sound.relG (ok2 _ _ _) (fun x v G G' hg h=>h.grow hg) fun x=>?_
 obtain ⟨d,steps⟩:=x
 refine Sound.hpRel (traces16h d steps) (fun args G h=>h) (fun args v p' G' G'' hg hp h=>?_) (fun args v G G' hg h=>h.grow hg)
 unfold tracesQ at h
 unfold tracesR
 dsimp only at h ⊢
 split at h<;>rename_i e<;>rw [e]
 ·exact h
 ·exact h
 ·exact h
 ·rename_i S
  obtain ⟨u,b,ras,rfl,h1,h2,h3⟩:=h
  have hsm:=(endF_small e).small (Nat.le_refl _)
  have hl:ras.length≤1000:=by
   have h4:=h2.1
   have h5:=placesN_le S.its S.its.length
   have h6:=(endF_small e).1
   rw [tracesF,List.length_map] at h4
   have:(placesF S.its).length≤S.its.length:=h5
   omega
  obtain ⟨a,n,c,rfl,h4,h5⟩:=h1.slV hp (by omega)
  refine ⟨_,_,rfl,⟨a,n,c,rfl,(h2.grow hg).slR h4, ?_⟩,h3.grow hg⟩
  have:=h4.len
  unfold maxLen
  omega
end Go.Proofs.YtefnikpoimaiiaaGreat

namespace Go.Proofs.YtefnikpoimaiiaaGreat
open Go.Pal Go.RowKit
set_option maxRecDepth 100000
theorem okU:GOk (fun args _ (_:Unit)=>args = []):=⟨fun _ _ _ _ _ _=>rfl,fun _ _ _ _ _ h=>h⟩
theorem SlR.ofPub {α:Type} {k:Nat} {R:Hp→List Value→α→Prop} {G:Hp} {a:Option Addr} {n c:Nat} {l:List α} {vs:List Value} (h:PubRow G a n c vs) (hl:l.length = n) (hk:∀ i (hi:i < l.length),((vs.drop (i * k)).take k).length = k∧R G ((vs.drop (i * k)).take k) l[i]):SlR k R G a n c l :=
 ⟨hl,h.cap,h.some,fun i hi=>⟨_,(hk i hi).1,h.cells.drop,(hk i hi).2⟩⟩
end Go.Proofs.YtefnikpoimaiiaaGreat

namespace Go.Proofs.YtefnikpoimaiiaaGreat
open Go.Pal Go.RowKit
set_option maxRecDepth 100000
theorem incr_uniq:∀ {l l':List Int},l.Pairwise (· < ·)→l'.Pairwise (· < ·)→(∀ x,x∈l↔x∈l')→l = l'
 | [],[],_,_,_=>rfl
 | [],y :: r,_,_,h=>by have:=(h y).2 (by simp);simp at this
 | x :: r,[],_,_,h=>by have:=(h x).1 (by simp);simp at this
 | x :: r,y :: r',h1,h2,h=>by
  obtain ⟨a1,a2⟩:=List.pairwise_cons.1 h1
  obtain ⟨b1,b2⟩:=List.pairwise_cons.1 h2
  have e:x = y:=by
   rcases List.mem_cons.1 ((h x).1 (by simp)) with e | e
   ·exact e
   ·rcases List.mem_cons.1 ((h y).2 (by simp)) with e' | e'
    ·exact e'.symm
    ·have:=a1 y e';have:=b1 x e;omega
  subst e
  refine congrArg _ (incr_uniq a2 b2 fun z=>⟨fun hz=>?_,fun hz=>?_⟩)
  ·rcases List.mem_cons.1 ((h z).1 (by simp [hz])) with e | e
   ·have:=a1 z hz;omega
   ·exact e
  ·rcases List.mem_cons.1 ((h z).2 (by simp [hz])) with e | e
   ·have:=b1 z hz;omega
   ·exact e
def insI (x:Int):List Int→List Int
 | []=>[x]
 | y :: r=>if x < y then x :: y :: r else if x = y then y :: r else y :: insI x r
def srt (l:List Int):List Int:=l.foldr insI []
theorem insI_mem {x z:Int}:∀ {l:List Int},z∈insI x l↔z = x∨z∈l
 | []=>by simp [insI]
 | y :: r=>by
  unfold insI
  split
  ·simp
  ·split
   ·rename_i e;subst e;simp
   ·simp only [List.mem_cons,insI_mem (l:=r)]
    exact ⟨fun h=>h.elim (fun h=>.inr (.inl h)) fun h=>h.elim .inl fun h=>.inr (.inr h),fun h=>h.elim (fun h=>.inr (.inl h)) fun h=>h.elim .inl fun h=>.inr (.inr h)⟩
theorem insI_lt {x:Int}:∀ {l:List Int},l.Pairwise (· < ·)→(insI x l).Pairwise (· < ·)
 | [],_=>by simp [insI]
 | y :: r,h=>by
  obtain ⟨a1,a2⟩:=List.pairwise_cons.1 h
  unfold insI
  split
  ·rename_i hlt
   refine List.pairwise_cons.2 ⟨fun z hz=>?_,h⟩
   rcases List.mem_cons.1 hz with rfl | hz
   ·exact hlt
   ·have:=a1 z hz;omega
  ·split
   ·exact h
   ·refine List.pairwise_cons.2 ⟨fun z hz=>?_,insI_lt a2⟩
    rcases insI_mem.1 hz with rfl | hz
    ·omega
    ·exact a1 z hz
theorem srt_mem {z:Int}:∀ {l:List Int},z∈srt l↔z∈l
 | []=>Iff.rfl
 | x :: r=>by
  have:srt (x :: r) = insI x (srt r):=rfl
  rw [this,insI_mem,srt_mem (l:=r),List.mem_cons]
theorem srt_lt:∀ (l:List Int),(srt l).Pairwise (· < ·)
 | []=>List.Pairwise.nil
 | x :: r=>insI_lt (srt_lt r)
theorem sortF_eq (l:List Int):sortF l = srt l:=incr_uniq (sortF_lt l) (srt_lt l) fun x=>by rw [sortF_mem,srt_mem]
def srcM (L:List It):Nat→Int→List Int
 | 0,_=>[]
 | f + 1,m=>srt ((L.filter fun y=>decide (y.g = m)).flatMap fun y=>if 0≤y.o then [y.o] else srcM L f y.m)
theorem srcN_eq (L:List It):∀ (f:Nat) (m:Int),srcN L f m = srcM L f m
 | 0,_=>rfl
 | f + 1,m=>by simp only [srcN,srcM,sortF_eq,srcN_eq L f]
def ofM (L:List It) (x:It):List Int:=if 0≤x.o then [x.o] else srcM L x.m.toNat x.m
theorem ofF_eq (L:List It) (x:It):ofF L x = ofM L x:=by simp only [ofF,ofM,grpF,srcN_eq]
def traceM (d:Dr) (src:List Int):Tr:=⟨src,fstN d src src.length,lstN d src src.length,srt (repN d src src.length)⟩
def tracesM (d:Dr) (S:Sh):List Tr:=(placesF S.its).map fun i=>traceM d (ofM S.its (S.its.getD i default))
theorem tracesF_eq (d:Dr) (S:Sh):tracesF d S = tracesM d S:=by simp only [tracesF,tracesM,traceF,traceM,sortF_eq,ofF_eq]
def lostM (d:Dr) (S:Sh):List Int:=((List.range d.ws.length).filter fun (k:Nat)=>!decide ((k:Int)∈(placesF S.its).flatMap fun i=>ofM S.its (S.its.getD i default))).map fun (k:Nat)=>(k:Int)
theorem lostF_eq (d:Dr) (S:Sh):lostF d S = lostM d S:=by simp only [lostF,lostN,lostM,srcsN,ofF_eq,List.take_length]
theorem CellsAt.app {G:Hp} {b o:Nat} {cs ds:List Value} (h1:CellsAt G b o cs) (h2:CellsAt G b (o + cs.length) ds):CellsAt G b o (cs++ds):=fun j v hj=>by
 by_cases hl:j < cs.length
 ·rw [List.getElem?_append_left hl] at hj;exact h1 j v hj
 ·rw [List.getElem?_append_right (by omega)] at hj
  have:=h2 _ v hj
  rwa [show o + cs.length + (j - cs.length) = o + j by omega] at this
theorem SpC.one {G:Hp} {cs:List Value} {x:Sp} (h:SpC G cs x):∀ v∈cs,v.oneCell' = true:=by
 obtain ⟨pv,rfl,a,n,c,rfl,_⟩:=h
 intro v hv
 simp only [List.mem_cons,List.not_mem_nil,or_false] at hv
 rcases hv with rfl | rfl | rfl | rfl<;>rfl
end Go.Proofs.YtefnikpoimaiiaaGreat

namespace Go.Proofs.YtefnikpoimaiiaaGreat
open Go.Pal Go.RowKit
set_option maxRecDepth 100000
theorem in27:Sound Tryz.prog 49 id inS:=by
 refine comp27.fn (Tab.nil _) (fun args G h=>?_) (fun args G h=>?_)
 ·obtain ⟨n,lo,hi,rfl⟩:=h;simp
 ·obtain ⟨n,lo,hi,rfl⟩:=h
  (conv=>whnf)
  repeat' (first | (refine IteP.mk (fun _=>W.mk ?_) (fun _=>W.mk ?_)<;>(conv=>whnf)) | (refine ob ?_ ?_;(first | trivial | omega | (simp only [inR];omega) | exact ble (by rfl) | exact SlR.some ‹_› (by omega));(conv=>whnf)) | (refine ForkP.mk (fun _=>W.mk ?_) (fun _=>W.mk ?_)<;>(conv=>whnf)) | (refine ra ‹_› (by rfl) ?_;(conv=>whnf)) | (refine rb ‹_› (by rfl) ?_;(conv=>whnf)) | (refine rc ‹_› (by rfl) ?_;(conv=>whnf)) | (refine rd ‹_› (by rfl) ?_;(conv=>whnf)) | (refine FinP.mk ?_))
  all_goals (refine congrArg Value.bool ?_;simp [inF, *])
theorem has24:Sound Tryz.prog 62 id (gsca (args2 (slRd intE) intRd fun _ _=>True) fun x v=>v = .bool (decide (x.2∈x.1))):=by
 refine comp24.gsca (Tab.nil _) (fun args G s h=>?_) (fun args G x h=>?_)
 ·obtain ⟨v,w,rfl,_⟩:=h;simp
 ·obtain ⟨l,q⟩:=x
  obtain ⟨u,w,rfl,⟨a,n,c,rfl,hl,hn⟩,rfl,_⟩:=h
  dsimp only at hl
  have hlen:=hl.len
  dsimp only
  (conv=>whnf)
  refine LoopP.of { α:=Nat,fr:=fun x=>[(0, .v (.slice a n c)),(1, .v (I q)),(5, .v (I x))],H:=fun _=>[],ok:=fun i _=>i≤l.length∧(q∈l↔q∈l.drop i),m:=fun x=>l.length - x }
   0 (HeadP.of [] ⟨rfl,rfl,rfl,trivial⟩ trivial) ⟨Nat.zero_le _,Iff.rfl⟩ (fun _=>⟨rfl,rfl⟩) (fun (i:Nat) G' hG hx=>W.mk ?_)
  obtain ⟨hi,hx⟩:=hx
  replace hl:=SlR.grow (G:=G) (G':=G') (fun _ _ h=>h) hl hG
  dsimp only
  (conv=>whnf)
  refine IteP.mk (fun hlt=>W.mk ?_) (fun hge=>W.mk ?_)<;>(conv=>whnf)
  ·have h1:i < l.length:=by omega
   have hc:=hl.el h1
   rw [List.drop_eq_getElem_cons h1,List.mem_cons] at hx
   repeat' (first | (refine ob ?_ ?_;(first | trivial | omega | (simp only [inR];omega) | exact ble (by rfl) | exact SlR.some ‹_› (by omega));(conv=>whnf)) | (first | (refine ra ‹_› (by rfl) ?_;(conv=>whnf)) | (refine rb ‹_› (by rfl) ?_;(conv=>whnf)) | (refine rc ‹_› (by rfl) ?_;(conv=>whnf)) | (refine rd ‹_› (by rfl) ?_;(conv=>whnf))))
   refine IteP.mk (fun hq=>W.mk ?_) (fun hq=>W.mk ?_)<;>(conv=>whnf)
   ·refine FinP.mk (congrArg Value.bool ?_)
    rw [decide_eq_true (hx.2 (.inl hq.symm))]
   ·repeat' (refine ob ?_ ?_;(first | trivial | omega | (simp only [inR];omega) | exact ble (by rfl) | exact SlR.some ‹_› (by omega));(conv=>whnf))
    refine RoundP.of (i + 1) (HeadP.of [] ⟨rfl,rfl,rfl,trivial⟩ trivial) ⟨h1,hx.trans ⟨fun h=>h.resolve_left fun e=>hq e.symm, .inr⟩⟩ (by simp only;omega)
  ·refine FinP.mk (congrArg Value.bool ?_)
   rw [decide_eq_false (fun h=>by have:=hx.1 h;rw [List.drop_of_length_le (by omega)] at this;cases this)]
theorem und9:Tryz.prog.underlying 9 = some .string:=by kernel_rfl
def byteAt (s:ByteArray) (k:Nat):Int:=if h:k < s.size then ((s[k]).toNat:Int) else 0
theorem bytesF_len (s:ByteArray):(bytesF s).length = s.size:=by rw [bytesF,List.length_map];rfl
theorem idx9 (s:ByteArray) (k:Nat) (h:k < s.size):∀ w,((POp.idx 9).sem [.string s,I k]).run Tryz.prog w = .ok (.int .u8 (byteAt s k)) w:=fun w=>by
 have e1:(POp.idx 9).sem [.string s,I k] = Instr.index 9 (.string s) (I k):=rfl
 rw [e1]
 simp [Instr.index,run_underlying und9,asIntOf,Result.andThen,h,byteAt]
theorem byteAt_get (s:ByteArray) {k:Nat} (h:k < s.size):(bytesF s).getD k 0 = byteAt s k:=by
 have h2:k < (bytesF s).length:=by rw [bytesF_len];exact h
 rw [List.getD_eq_getElem?_getD,List.getElem?_eq_getElem h2,Option.getD_some]
 simp only [bytesF,List.getElem_map,byteAt,h,dif_pos]
 rfl
def SlU {α:Type} (e:El α) (G:Hp) (v:Value) (l:List α):Prop:=∃ a n c,v = .slice a n c∧SlR e.k e.R G a n c l∧n≤maxLen
theorem SlU.uniq {α:Type} {e:El α} {G:Hp} {v:Value} {x y:List α} (h:SlU e G v x) (h':SlU e G v y):x = y:=by
 obtain ⟨a,n,c,rfl,h,_⟩:=h
 obtain ⟨a',n',c',e',h',_⟩:=h'
 cases e'
 exact h.uniq (fun cs x y h1 h2=>e.inj (h1.symm.trans h2)) h'
theorem SlU.grow {α:Type} {e:El α} {G G':Hp} {v:Value} {x:List α} (hg:Grow G G') (h:SlU e G v x):SlU e G' v x:=by
 obtain ⟨a,n,c,rfl,h,hn⟩:=h
 exact ⟨a,n,c,rfl,SlR.grow (G:=G) (G':=G') (fun _ _ h=>h) h hg,hn⟩
theorem maxLen_lt:maxLen≤9223372036854775807:=by decide
theorem SlV.u {α:Type} {e:El α} {G:Hp} {v:Value} {x:List α} (h:SlV e G v x):SlU e G v x:=by
 obtain ⟨a,n,c,rfl,h,hn⟩:=h
 exact ⟨a,n,c,rfl,h,by unfold maxLen;omega⟩
def strRd:Rd ByteArray:=⟨fun _ v x=>v = .string x,fun {_ _ _ _} h h'=>by rw [h] at h';cases h';rfl,fun {_ _ _ _} _ h=>h⟩
theorem text54:Sound Tryz.prog 48 id (gsca (args1 strRd fun s=>s.size≤9223372036854775807) fun s v=>v = .bool (textF s)):=by
 refine comp54.gsca (Tab.cons 49 _ in27 body27 (Tab.nil _)) (fun args G s h=>?_) (fun args G s h=>?_)
 ·obtain ⟨v,rfl,_⟩:=h;simp
 ·obtain ⟨v,rfl,rfl,hs⟩:=h
  (conv=>whnf)
  refine LoopP.of { α:=Nat,fr:=fun x=>[(0, .v (.string s)),(3, .v (I x))],H:=fun _=>[],ok:=fun i _=>i≤s.size∧∀ j < i,byteF (byteAt s j) = true,m:=fun x=>s.size - x }
   0 (HeadP.of [] ⟨rfl,rfl,trivial⟩ trivial) ⟨Nat.zero_le _,fun j hj=>by omega⟩ (fun _=>⟨rfl,rfl⟩) (fun (i:Nat) G' hG hx=>W.mk ?_)
  obtain ⟨hi,hx⟩:=hx
  dsimp only
  (conv=>whnf)
  refine IteP.mk (fun hlt=>W.mk ?_) (fun hge=>W.mk ?_)<;>(conv=>whnf)
  ·have h1:i < s.size:=by omega
   refine PurP.of _ (idx9 s i h1) (W.mk ?_)
   (conv=>whnf)
   have bad:byteF (byteAt s i) = false→textF s = false:=fun h=>by
    have:(bytesF s).all byteF = false:=all_f (d:=0) (by rw [bytesF_len];exact h1) (by rw [byteAt_get s h1];exact h)
    rw [textF,this,Bool.and_false]
   refine IteP.mk (fun hq=>W.mk ?_) (fun hq=>W.mk ?_)<;>(conv=>whnf)
   ·refine FinP.mk (congrArg Value.bool ?_)
    rw [bad (by simp [byteF];omega)]
   ·refine PurP.of _ (idx9 s i h1) (W.mk ?_)
    (conv=>whnf)
    refine IteP.mk (fun hq2=>W.mk ?_) (fun hq2=>W.mk ?_)<;>(conv=>whnf)
    ·refine FinP.mk (congrArg Value.bool ?_)
     rw [bad (by simp [byteF];omega)]
    ·repeat' (refine ob ?_ ?_;(first | trivial | omega | (simp only [inR];omega) | exact ble (by rfl) | exact SlR.some ‹_› (by omega));(conv=>whnf))
     refine RoundP.of (i + 1) (HeadP.of [] ⟨rfl,rfl,trivial⟩ trivial) ⟨h1,fun j hj=>?_⟩ (by simp only;omega)
     rcases Nat.lt_or_eq_of_le (Nat.le_of_lt_succ hj) with h | h
     ·exact hx j h
     ·subst h;simp [byteF];omega
  ·have:i = s.size:=by omega
   subst this
   have hall:(bytesF s).all byteF = true:=all_t (d:=0) fun j hj=>by
    rw [bytesF_len] at hj
    rw [byteAt_get s hj];exact hx j hj
   refine OblP.mk ⟨_,_,_,rfl⟩ (W.mk ?_)
   (conv=>whnf)
   refine ForkP.mk (fun h1=>W.mk ?_) (fun h1=>W.mk ?_)<;>(conv=>whnf)<;>refine FinP.mk (congrArg Value.bool ?_)<;>rw [textF,hall,Bool.and_true]<;>exact h1.symm
end Go.Proofs.YtefnikpoimaiiaaGreat

namespace Go.Proofs.YtefnikpoimaiiaaGreat
open Go.Pal Go.RowKit
set_option maxRecDepth 100000
def refProt (d:Dr) (x:It):Bool:=decide (0≤x.o) && decide (x.o∈d.ks)
end Go.Proofs.YtefnikpoimaiiaaGreat

namespace Go.Proofs.YtefnikpoimaiiaaGreat
open Go.Pal Go.RowKit
set_option maxRecDepth 100000
def rWo (l:List Wo) (i:Nat):Bool:=textF (l.getD i default).t && inF (l.getD i default).s 0 36000 && inF (l.getD i default).r 0 99 && !(decide (0 < i) && decide ((l.getD i default).s < (l.getD (i - 1) default).s))
def rKe (n:Nat) (l:List Int) (i:Nat):Bool:=inF (l.getD i 0) 0 ((n:Int) - 1) && !(decide (0 < i) && decide (l.getD i 0≤l.getD (i - 1) 0))
theorem range_all {n:Nat} {p:Nat→Bool}:(List.range n).all p = true↔∀ i < n,p i = true:=by simp [List.all_eq_true]
theorem woOk_iff (l:List Wo) (n:Nat):(∀ i < n,woOk l i = true)↔∀ i < n,rWo l i = true:=by
 constructor
 ·intro h i hi
  have key:∀ i < n,0≤secAt l i∧0≤(l.getD i default).s:=by
   intro i
   induction i with
   | zero =>
    intro hi
    have:=h 0 hi
    simp only [woOk,Bool.and_eq_true,inF,decide_eq_true_eq,secAt,if_pos] at this
    exact ⟨by simp [secAt],this.1.2.1⟩
   | succ i ih =>
    intro hi
    have h1:=ih (by omega)
    have:=h (i + 1) hi
    simp only [woOk,Bool.and_eq_true,inF,decide_eq_true_eq] at this
    have h2:secAt l (i + 1) = (l.getD i default).s:=by simp [secAt]
    rw [h2] at this ⊢
    exact ⟨h1.2,by omega⟩
  obtain ⟨k1,k2⟩:=key i hi
  have:=h i hi
  simp only [woOk,Bool.and_eq_true,inF,decide_eq_true_eq] at this
  simp only [rWo,Bool.and_eq_true,inF,decide_eq_true_eq,Bool.not_eq_true',Bool.and_eq_false_iff,decide_eq_false_iff_not]
  refine ⟨⟨⟨this.1.1,k2,this.1.2.2⟩,this.2⟩, ?_⟩
  by_cases h0:i = 0
  ·exact .inl (by omega)
  ·right
   have h3:secAt l i = (l.getD (i - 1) default).s:=by simp [secAt,h0]
   rw [h3] at this
   omega
 ·intro h i hi
  have:=h i hi
  simp only [rWo,Bool.and_eq_true,inF,decide_eq_true_eq,Bool.not_eq_true',Bool.and_eq_false_iff,decide_eq_false_iff_not] at this
  simp only [woOk,Bool.and_eq_true,inF,decide_eq_true_eq]
  refine ⟨⟨this.1.1.1, ?_,this.1.1.2.2⟩,this.1.2⟩
  by_cases h0:i = 0
  ·subst h0;simp only [secAt,if_pos];exact this.1.1.2.1
  ·have h3:secAt l i = (l.getD (i - 1) default).s:=by simp [secAt,h0]
   rw [h3]
   rcases this.2 with h4 | h4<;>omega
theorem keOk_iff (m:Nat) (l:List Int) (n:Nat):(∀ i < n,keOk m l i = true)↔∀ i < n,rKe m l i = true:=by
 constructor
 ·intro h i hi
  have key:∀ i < n, -1≤keptAt l i∧0≤l.getD i 0:=by
   intro i
   induction i with
   | zero =>
    intro hi
    have:=h 0 hi
    simp only [keOk,inF,decide_eq_true_eq,keptAt,if_pos] at this
    exact ⟨by simp [keptAt],by omega⟩
   | succ i ih =>
    intro hi
    have h1:=ih (by omega)
    have:=h (i + 1) hi
    simp only [keOk,inF,decide_eq_true_eq] at this
    have h2:keptAt l (i + 1) = l.getD i 0:=by simp [keptAt]
    rw [h2] at this ⊢
    exact ⟨by omega,by omega⟩
  obtain ⟨k1,k2⟩:=key i hi
  have:=h i hi
  simp only [keOk,inF,decide_eq_true_eq] at this
  simp only [rKe,Bool.and_eq_true,inF,decide_eq_true_eq,Bool.not_eq_true',Bool.and_eq_false_iff,decide_eq_false_iff_not]
  refine ⟨⟨k2,this.2⟩, ?_⟩
  by_cases h0:i = 0
  ·exact .inl (by omega)
  ·right
   have h3:keptAt l i = l.getD (i - 1) 0:=by simp [keptAt,h0]
   rw [h3] at this
   omega
 ·intro h i hi
  have:=h i hi
  simp only [rKe,Bool.and_eq_true,inF,decide_eq_true_eq,Bool.not_eq_true',Bool.and_eq_false_iff,decide_eq_false_iff_not] at this
  simp only [keOk,inF,decide_eq_true_eq]
  refine ⟨?_,this.1.2⟩
  by_cases h0:i = 0
  ·subst h0;simp only [keptAt,if_pos];omega
  ·have h3:keptAt l i = l.getD (i - 1) 0:=by simp [keptAt,h0]
   rw [h3]
   rcases this.2 with h4 | h4<;>omega
theorem valid_iff (d:Dr):validF d = true↔d.ws.length≤60∧(∀ i < d.ws.length,rWo d.ws i = true)∧∀ i < d.ks.length,rKe d.ws.length d.ks i = true:=by
 rw [validF,Bool.and_eq_true,Bool.and_eq_true,decide_eq_true_eq,range_all,range_all,woOk_iff,keOk_iff,and_assoc]
theorem right32:Sound Tryz.prog 19 id (gsca (args1 drRd fun d=>d.ks.length≤100000∧∀ w∈d.ws,w.t.size≤1000000) fun d v=>v = .bool (validF d)):=by
 refine comp32.gsca (Tab.cons 49 _ in27 body27 (Tab.cons 48 _ text54 body54 (Tab.nil _))) (fun args G s h=>?_) (fun args G d h=>?_)
 ·obtain ⟨v,rfl,_⟩:=h;simp
 ·obtain ⟨v,rfl,⟨w,k,rfl,⟨a,n,c,rfl,hl,hn⟩,⟨ka,kn,kc,rfl,hl2,hkn⟩⟩,hk,hsz⟩:=h
  have hlen:=hl.len
  have hlen2:=hl2.len
  have no:¬ (d.ws.length≤60∧(∀ i < d.ws.length,rWo d.ws i = true)∧∀ i < d.ks.length,rKe d.ws.length d.ks i = true)→validF d = false:=fun h=>by
   cases hv:validF d with
   | false=>rfl
   | true=>exact absurd ((valid_iff d).1 hv) h
  (conv=>whnf)
  refine IteP.mk (fun h60=>W.mk ?_) (fun h60=>W.mk ?_)<;>(conv=>whnf)
  ·refine FinP.mk (congrArg Value.bool ?_)
   rw [no fun h=>by omega]
  ·refine LoopP.of { α:=Nat,fr:=fun x=>[(1, .c (.ptr 0 0)),(3, .v (I x))],H:=fun _=>[(0, .cells .anon [.val (.slice a n c), .val (.slice ka kn kc)] 58)],ok:=fun i _=>i≤d.ws.length∧∀ j < i,rWo d.ws j = true,m:=fun x=>d.ws.length - x }
    0 (HeadP.of [] ⟨rfl,rfl,trivial⟩ ⟨rfl,trivial⟩) ⟨Nat.zero_le _,fun j hj=>by omega⟩ (fun _=>⟨rfl,rfl⟩) (fun (i:Nat) G' hG hx=>W.mk ?_)
   obtain ⟨hi,hx⟩:=hx
   replace hl:=SlR.grow (G:=G) (G':=G') (fun _ _ h=>h) hl hG
   dsimp only
   (conv=>whnf)
   refine IteP.mk (fun hlt=>W.mk ?_) (fun hge=>W.mk ?_)<;>(conv=>whnf)
   ·have h1:i < d.ws.length:=by omega
    have hc:=hl.el h1
    have hgd:d.ws.getD i default = d.ws[i]:=by simp [h1]
    have hs1:=hsz _ (List.getElem_mem h1)
    have hrw:rWo d.ws i = (textF d.ws[i].t && inF d.ws[i].s 0 36000 && inF d.ws[i].r 0 99 && !(decide (0 < i) && decide (d.ws[i].s < (d.ws.getD (i - 1) default).s))):=by rw [rWo,hgd]
    have bad:rWo d.ws i = false→validF d = false:=fun h=>no fun h2=>by have:=h2.2.1 i h1;rw [h] at this;cases this
    have nxt:rWo d.ws i = true→∀ j < i + 1,rWo d.ws j = true:=fun ht j hj=>by
     rcases Nat.lt_or_eq_of_le (Nat.le_of_lt_succ hj) with h | h
     ·exact hx j h
     ·subst h;exact ht
    have hpr:0 < i→∃ y:Wo,d.ws.getD (i - 1) default = y∧CellsAt G' (ab a) (ao a + ((i:Int) - 1).toNat * 3) (woE.f y):=fun h0=>by
     have h2:i - 1 < d.ws.length:=by omega
     rw [show ((i:Int) - 1).toNat = i - 1 by omega]
     exact ⟨d.ws[i - 1],by simp [h2],hl.el h2⟩
    generalize d.ws[i] = x at hc hs1 hrw
    repeat' (first | (refine ob ?_ ?_;(first | trivial | omega | (simp only [inR];omega) | exact ble (by rfl) | exact SlR.some ‹_› (by omega));(conv=>whnf)) | (first | (refine ra ‹_› (by rfl) ?_;(conv=>whnf)) | (refine rb ‹_› (by rfl) ?_;(conv=>whnf)) | (refine rc ‹_› (by rfl) ?_;(conv=>whnf)) | (refine rd ‹_› (by rfl) ?_;(conv=>whnf))))
    refine ScaP.g (ok1 strRd fun s=>s.size≤9223372036854775807) (x:=x.t) ⟨_,rfl,rfl,Nat.le_trans hs1 (by decide)⟩ (fun v hv=>W.mk ?_)
    subst hv
    (conv=>whnf)
    refine ForkP.mk (fun t1=>W.mk ?_) (fun t1=>W.mk ?_)<;>(conv=>whnf)
    ·refine OblP.mk ⟨_,_,_,rfl⟩ (W.mk ?_)
     (conv=>whnf)
     refine ForkP.mk (fun t2=>W.mk ?_) (fun t2=>W.mk ?_)<;>(conv=>whnf)
     ·refine OblP.mk ⟨_,_,_,rfl⟩ (W.mk ?_)
      (conv=>whnf)
      refine ForkP.mk (fun t3=>W.mk ?_) (fun t3=>W.mk ?_)<;>(conv=>whnf)
      ·refine IteP.mk (fun t4=>W.mk ?_) (fun t4=>W.mk ?_)<;>(conv=>whnf)
       ·obtain ⟨y,hy,hcy⟩:=hpr (by omega)
        repeat' (first | (refine ob ?_ ?_;(first | trivial | omega | (simp only [inR];omega) | exact ble (by rfl) | exact SlR.some ‹_› (by omega));(conv=>whnf)) | (first | (refine ra ‹_› (by rfl) ?_;(conv=>whnf)) | (refine rb ‹_› (by rfl) ?_;(conv=>whnf)) | (refine rc ‹_› (by rfl) ?_;(conv=>whnf)) | (refine rd ‹_› (by rfl) ?_;(conv=>whnf))))
        refine IteP.mk (fun t5=>W.mk ?_) (fun t5=>W.mk ?_)<;>(conv=>whnf)
        ·refine FinP.mk (congrArg Value.bool ?_)
         rw [bad (by rw [hrw,hy,decide_eq_true t5,decide_eq_true (by omega:0 < i)];simp)]
        ·repeat' (refine ob ?_ ?_;(first | trivial | omega | (simp only [inR];omega) | exact ble (by rfl) | exact SlR.some ‹_› (by omega));(conv=>whnf))
         refine RoundP.of (i + 1) (HeadP.of [] ⟨rfl,rfl,trivial⟩ ⟨rfl,trivial⟩) ⟨h1,nxt (by rw [hrw,hy,decide_eq_false t5,t1,t2,t3];simp)⟩ (by simp only;omega)
       ·repeat' (refine ob ?_ ?_;(first | trivial | omega | (simp only [inR];omega) | exact ble (by rfl) | exact SlR.some ‹_› (by omega));(conv=>whnf))
        refine RoundP.of (i + 1) (HeadP.of [] ⟨rfl,rfl,trivial⟩ ⟨rfl,trivial⟩) ⟨h1,nxt (by rw [hrw,t1,t2,t3,decide_eq_false (by omega:¬ 0 < i)];simp)⟩ (by simp only;omega)
      ·refine FinP.mk (congrArg Value.bool ?_)
       rw [bad (by rw [hrw,t3];simp)]
     ·refine FinP.mk (congrArg Value.bool ?_)
      rw [bad (by rw [hrw,t2];simp)]
    ·refine FinP.mk (congrArg Value.bool ?_)
     rw [bad (by rw [hrw,t1];simp)]
   ·have:i = d.ws.length:=by omega
    subst this
    refine LoopP.of { α:=Nat,fr:=fun x=>[(1, .c (.ptr 0 0)),(5, .v (I x))],H:=fun _=>[(0, .cells .anon [.val (.slice a n c), .val (.slice ka kn kc)] 58)],ok:=fun i _=>i≤d.ks.length∧∀ j < i,rKe d.ws.length d.ks j = true,m:=fun x=>d.ks.length - x }
     0 (HeadP.of [] ⟨rfl,rfl,trivial⟩ ⟨rfl,trivial⟩) ⟨Nat.zero_le _,fun j hj=>by omega⟩ (fun _=>⟨rfl,rfl⟩) (fun (i:Nat) G2 hG2 hx2=>W.mk ?_)
    obtain ⟨hi2,hx2⟩:=hx2
    replace hl2:=SlR.grow (G:=G) (G':=G2) (fun _ _ h=>h) hl2 (hG.trans hG2)
    dsimp only
    (conv=>whnf)
    refine IteP.mk (fun hlt=>W.mk ?_) (fun hge=>W.mk ?_)<;>(conv=>whnf)
    ·have h1:i < d.ks.length:=by omega
     have hc:=hl2.el h1
     have hgd:d.ks.getD i 0 = d.ks[i]:=by simp [h1]
     have hrw:rKe d.ws.length d.ks i = (inF d.ks[i] 0 ((n:Int) - 1) && !(decide (0 < i) && decide (d.ks[i]≤d.ks.getD (i - 1) 0))):=by rw [rKe,hgd,hlen]
     have bad:rKe d.ws.length d.ks i = false→validF d = false:=fun h=>no fun h2=>by have:=h2.2.2 i h1;rw [h] at this;cases this
     have nxt:rKe d.ws.length d.ks i = true→∀ j < i + 1,rKe d.ws.length d.ks j = true:=fun ht j hj=>by
      rcases Nat.lt_or_eq_of_le (Nat.le_of_lt_succ hj) with h | h
      ·exact hx2 j h
      ·subst h;exact ht
     have hpr:0 < i→∃ y:Int,d.ks.getD (i - 1) 0 = y∧CellsAt G2 (ab ka) (ao ka + ((i:Int) - 1).toNat * 1) (intE.f y):=fun h0=>by
      have h2:i - 1 < d.ks.length:=by omega
      rw [show ((i:Int) - 1).toNat = i - 1 by omega]
      exact ⟨d.ks[i - 1],by simp [h2],hl2.el h2⟩
     generalize d.ks[i] = x at hc hrw
     repeat' (first | (refine ob ?_ ?_;(first | trivial | omega | (simp only [inR];omega) | exact ble (by rfl) | exact SlR.some ‹_› (by omega));(conv=>whnf)) | (first | (refine ra ‹_› (by rfl) ?_;(conv=>whnf)) | (refine rb ‹_› (by rfl) ?_;(conv=>whnf)) | (refine rc ‹_› (by rfl) ?_;(conv=>whnf)) | (refine rd ‹_› (by rfl) ?_;(conv=>whnf))))
     refine OblP.mk ⟨_,_,_,rfl⟩ (W.mk ?_)
     (conv=>whnf)
     refine ForkP.mk (fun t1=>W.mk ?_) (fun t1=>W.mk ?_)<;>(conv=>whnf)
     ·refine IteP.mk (fun t4=>W.mk ?_) (fun t4=>W.mk ?_)<;>(conv=>whnf)
      ·obtain ⟨y,hy,hcy⟩:=hpr (by omega)
       repeat' (first | (refine ob ?_ ?_;(first | trivial | omega | (simp only [inR];omega) | exact ble (by rfl) | exact SlR.some ‹_› (by omega));(conv=>whnf)) | (first | (refine ra ‹_› (by rfl) ?_;(conv=>whnf)) | (refine rb ‹_› (by rfl) ?_;(conv=>whnf)) | (refine rc ‹_› (by rfl) ?_;(conv=>whnf)) | (refine rd ‹_› (by rfl) ?_;(conv=>whnf))))
       refine IteP.mk (fun t5=>W.mk ?_) (fun t5=>W.mk ?_)<;>(conv=>whnf)
       ·refine FinP.mk (congrArg Value.bool ?_)
        rw [bad (by rw [hrw,hy,decide_eq_true t5,decide_eq_true (by omega:0 < i)];simp)]
       ·repeat' (refine ob ?_ ?_;(first | trivial | omega | (simp only [inR];omega) | exact ble (by rfl) | exact SlR.some ‹_› (by omega));(conv=>whnf))
        refine RoundP.of (i + 1) (HeadP.of [] ⟨rfl,rfl,trivial⟩ ⟨rfl,trivial⟩) ⟨h1,nxt (by rw [hrw,hy,decide_eq_false t5,t1];simp)⟩ (by simp only;omega)
      ·repeat' (refine ob ?_ ?_;(first | trivial | omega | (simp only [inR];omega) | exact ble (by rfl) | exact SlR.some ‹_› (by omega));(conv=>whnf))
       refine RoundP.of (i + 1) (HeadP.of [] ⟨rfl,rfl,trivial⟩ ⟨rfl,trivial⟩) ⟨h1,nxt (by rw [hrw,t1,decide_eq_false (by omega:¬ 0 < i)];simp)⟩ (by simp only;omega)
     ·refine FinP.mk (congrArg Value.bool ?_)
      rw [bad (by rw [hrw,t1];simp)]
    ·have:i = d.ks.length:=by omega
     subst this
     refine FinP.mk (congrArg Value.bool ?_)
     exact ((valid_iff d).2 ⟨by omega,hx,hx2⟩).symm
end Go.Proofs.YtefnikpoimaiiaaGreat
