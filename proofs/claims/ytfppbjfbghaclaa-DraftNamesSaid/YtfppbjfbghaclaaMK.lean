/- Layer 3: Traces from outside; lists of numbers and of texts compared; texts of items. Layer 3: the example of the chapter. Layer 3: awake. Layer 3: the reference: In, Has, Text, Texts, Visible, protected, May, without, undo, Begin. Layer 3: the reference: Visible, protected, May, without, undo, Begin. Layer 3: the reference: Right. -/
import Derived.Test.YtfppbjfbghaclaaMJ
import Derived.Test.YtfppbjfbghaclaaMI
import Derived.Test.YtfppbjfbghaclaaMD
import Derived.Test.YtfppbjfbghaclaaMC
set_option linter.unusedSimpArgs false
set_option linter.unusedVariables false
namespace Go.Proofs.Ytfppbjfbghaclaa
open Go.Pal Go.RowKit
set_option maxRecDepth 100000
def trsRd:Rd (List Tr):=⟨fun G v l=>∃ a n c,v = .slice a n c∧SlR 4 TrC G a n c l∧n≤maxLen,fun ⟨a,n,c,h,h1,_⟩ ⟨a',n',c',h',h1',_⟩=>by
  rw [h] at h';cases h'
  refine h1.uniq (fun cs x y ⟨a,b,e,h1,h2⟩ ⟨a',b',e',h1',h2'⟩=>?_) h1'
  rw [e] at e'
  simp only [List.cons.injEq,Value.int.injEq,true_and,and_true] at e'
  obtain ⟨rfl,e1,e2,rfl⟩:=e'
  have e3:=h1.uniq h1'
  have e4:=h2.uniq h2'
  cases x;cases y;simp_all,fun {G G' _ _} hg ⟨a,n,c,h,h1,h2⟩=>⟨a,n,c,h,SlR.grow (G:=G) (G':=G') (fun cs x ⟨a,b,e,h1,h2⟩=>⟨a,b,e,h1.grow hg,h2.grow hg⟩) h1 hg,h2⟩⟩
def tracesR (x:Dr × List Sp) (v:Value) (G:Hp):Prop:=match endF x.1 x.2 with
 | .arg=>v = .tuple #[.slice none 0 0, .slice none 0 0,I 1]
 | .limit=>v = .tuple #[.slice none 0 0, .slice none 0 0,I 3]
 | .fail _=>v = .tuple #[.slice none 0 0, .slice none 0 0,I 9]
 | .ok S=>∃ u b,v = .tuple #[u,b,I 0]∧trsRd.R G u (tracesF x.1 S)∧SlV intE G b (lostF x.1 S)
theorem tracesR.grow {x:Dr × List Sp} {v:Value} {G G':Hp} (hg:Grow G G') (h:tracesR x v G):tracesR x v G':=by
 unfold tracesR at *
 split<;>rename_i e<;>rw [e] at h<;>first | exact h | (obtain ⟨u,b,h1,h2,h3⟩:=h;exact ⟨u,b,h1,trsRd.grow hg h2,h3.grow hg⟩)
theorem traces16:Sound Try.prog 6 id (grel dsR tracesR):=by
 refine Sound.relG (ok2 _ _ _) (fun x v G G' hg h=>h.grow hg) fun x=>?_
 obtain ⟨d,steps⟩:=x
 refine Sound.hpRel (traces16h d steps) (fun args G h=>h) (fun args v p' G' G'' hg hp h=>?_) (fun args v G G' hg h=>h.grow hg)
 unfold tracesQ at h
 unfold tracesR
 dsimp only at h ⊢
 split at h<;>rename_i e<;>rw [e]
 ·exact h
 ·exact h
 ·exact h
 ·rename_i S
  obtain ⟨u,b,ras,rfl,h1,h2,h3⟩:=h
  have hsm:=(endF_small e).small (Nat.le_refl _)
  have hl:ras.length≤1000:=by
   have h4:=h2.1
   have h5:=placesN_le S.its S.its.length
   have h6:=(endF_small e).1
   rw [tracesF,List.length_map] at h4
   have:(placesF S.its).length≤S.its.length:=h5
   omega
  obtain ⟨a,n,c,rfl,h4,h5⟩:=h1.slV hp (by omega)
  refine ⟨_,_,rfl,⟨a,n,c,rfl,(h2.grow hg).slR h4, ?_⟩,h3.grow hg⟩
  have:=h4.len
  unfold maxLen
  omega
theorem ints23:Sound Try.prog 9 id (gsca (args2 (slRd intE) (slRd intE) fun _ _=>True) fun x v=>v = .bool (decide (x.1 = x.2))):=by
 refine comp23.gsca (Tab.nil _) (fun args G s h=>?_) (fun args G x h=>?_)
 ·obtain ⟨v,w,rfl,_⟩:=h;simp
 ·obtain ⟨l,k⟩:=x
  obtain ⟨u,v,rfl,⟨a,n,c,rfl,hl,hn⟩,⟨a2,n2,c2,rfl,hl2,hn2⟩,_⟩:=h
  simp only at hl hl2
  have hlen:=hl.len
  have hlen2:=hl2.len
  dsimp only
  (conv=>whnf)
  refine IteP.mk (fun h=>W.mk ?_) (fun h=>W.mk ?_)<;>(conv=>whnf)
  rotate_left
  ·refine FinP.mk ?_
   have:l≠k:=fun e=>by subst e;omega
   show Value.bool false = .bool _
   rw [decide_eq_false this]
  refine LoopP.of { α:=Nat,fr:=fun x=>[(0, .v (.slice a n c)),(1, .v (.slice a2 n2 c2)),(5, .v (I x))],H:=fun _=>[],ok:=fun x _=>x≤l.length∧(l = k↔l.drop x = k.drop x),m:=fun x=>l.length - x }
   0 (HeadP.of [] ⟨rfl,rfl,rfl,trivial⟩ trivial) ⟨Nat.zero_le _,Iff.rfl⟩ (fun _=>⟨rfl,rfl⟩) (fun (x:Nat) G' hG hx=>W.mk ?_)
  obtain ⟨hi,hx⟩:=hx
  replace hl:=SlR.grow (G:=G) (G':=G') (fun _ _ h=>h) hl hG
  replace hl2:=SlR.grow (G:=G) (G':=G') (fun _ _ h=>h) hl2 hG
  (conv=>whnf)
  refine IteP.mk (fun hlt=>W.mk ?_) (fun hge=>W.mk ?_)<;>(conv=>whnf)
  ·have hlt:x < l.length:=by omega
   have hlt2:x < k.length:=by omega
   have hc:=hl.el hlt
   have hc2:=hl2.el hlt2
   rw [List.drop_eq_getElem_cons hlt,List.drop_eq_getElem_cons hlt2,List.cons.injEq] at hx
   repeat' (first | (refine ob ?_ ?_;(first | trivial | omega | (simp only [inR];omega) | exact ble (by rfl) | exact SlR.some ‹_› (by omega));(conv=>whnf)) | (first | (refine ra ‹_› (by rfl) ?_;(conv=>whnf)) | (refine rb ‹_› (by rfl) ?_;(conv=>whnf)) | (refine rc ‹_› (by rfl) ?_;(conv=>whnf)) | (refine rd ‹_› (by rfl) ?_;(conv=>whnf))))
   refine IteP.mk (fun h3=>W.mk ?_) (fun h3=>W.mk ?_)<;>(conv=>whnf)
   ·(refine ob ?_ ?_;(first | trivial | omega | (simp only [inR];omega) | exact ble (by rfl) | exact SlR.some ‹_› (by omega));(conv=>whnf))
    exact RoundP.of (x + 1) (HeadP.of [] ⟨rfl,rfl,rfl,trivial⟩ trivial) ⟨hlt,by rw [hx];exact ⟨fun h=>h.2,fun h=>⟨h3,h⟩⟩⟩ (by simp only;omega)
   ·refine FinP.mk ?_
    show Value.bool false = .bool _
    rw [decide_eq_false (fun e=>h3 (hx.1 e).1)]
  ·refine FinP.mk ?_
   have:l = k:=hx.2 (by rw [List.drop_eq_nil_of_le (by omega),List.drop_eq_nil_of_le (by omega)])
   show Value.bool true = .bool _
   rw [decide_eq_true this]
theorem pur_neT (a b:ByteArray):∀ w,((POp.bin .neq 9).sem [.string a, .string b]).run Try.prog w = .ok (.bool (!decide (a = b))) w:=fun w=>by
 have e1:(POp.bin .neq 9).sem [.string a, .string b] = (do eqGuard .neq 9 (.tmp 0) (.tmp 0) (.string a) (.string b);binOp .neq 9 (.string a) (.string b)):=rfl
 have e2:(a.toList == b.toList) = decide (a = b):=by
  rw [Bool.eq_iff_iff]
  simp only [ByteArray.toList_eq,beq_iff_eq,decide_eq_true_eq]
  exact ⟨fun h=>by cases a;cases b;simp [Array.toList_inj] at h;rw [h],fun h=>by rw [h]⟩
 rw [e1,eqGuard_at_string,binOp_string_neq,e2]
 rfl
theorem strings29:Sound Try.prog 10 id (gsca (args2 (slRd strE) (slRd strE) fun _ _=>True) fun x v=>v = .bool (decide (x.1 = x.2))):=by
 refine comp29.gsca (Tab.nil _) (fun args G s h=>?_) (fun args G x h=>?_)
 ·obtain ⟨v,w,rfl,_⟩:=h;simp
 ·obtain ⟨l,k⟩:=x
  obtain ⟨u,v,rfl,⟨a,n,c,rfl,hl,hn⟩,⟨a2,n2,c2,rfl,hl2,hn2⟩,_⟩:=h
  simp only at hl hl2
  have hlen:=hl.len
  have hlen2:=hl2.len
  dsimp only
  (conv=>whnf)
  refine IteP.mk (fun h=>W.mk ?_) (fun h=>W.mk ?_)<;>(conv=>whnf)
  rotate_left
  ·refine FinP.mk ?_
   have:l≠k:=fun e=>by subst e;omega
   show Value.bool false = .bool _
   rw [decide_eq_false this]
  refine LoopP.of { α:=Nat,fr:=fun x=>[(0, .v (.slice a n c)),(1, .v (.slice a2 n2 c2)),(5, .v (I x))],H:=fun _=>[],ok:=fun x _=>x≤l.length∧(l = k↔l.drop x = k.drop x),m:=fun x=>l.length - x }
   0 (HeadP.of [] ⟨rfl,rfl,rfl,trivial⟩ trivial) ⟨Nat.zero_le _,Iff.rfl⟩ (fun _=>⟨rfl,rfl⟩) (fun (x:Nat) G' hG hx=>W.mk ?_)
  obtain ⟨hi,hx⟩:=hx
  replace hl:=SlR.grow (G:=G) (G':=G') (fun _ _ h=>h) hl hG
  replace hl2:=SlR.grow (G:=G) (G':=G') (fun _ _ h=>h) hl2 hG
  (conv=>whnf)
  refine IteP.mk (fun hlt=>W.mk ?_) (fun hge=>W.mk ?_)<;>(conv=>whnf)
  ·have hlt:x < l.length:=by omega
   have hlt2:x < k.length:=by omega
   have hc:=hl.el hlt
   have hc2:=hl2.el hlt2
   rw [List.drop_eq_getElem_cons hlt,List.drop_eq_getElem_cons hlt2,List.cons.injEq] at hx
   repeat' (first | (refine ob ?_ ?_;(first | trivial | omega | (simp only [inR];omega) | exact ble (by rfl) | exact SlR.some ‹_› (by omega));(conv=>whnf)) | (first | (refine ra ‹_› (by rfl) ?_;(conv=>whnf)) | (refine rb ‹_› (by rfl) ?_;(conv=>whnf)) | (refine rc ‹_› (by rfl) ?_;(conv=>whnf)) | (refine rd ‹_› (by rfl) ?_;(conv=>whnf))))
   refine PurP.of _ (pur_neT _ _) (W.mk ?_)
   (conv=>whnf)
   refine ForkP.mk (fun h3=>W.mk ?_) (fun h3=>W.mk ?_)<;>(conv=>whnf)
   ·refine FinP.mk ?_
    show Value.bool false = .bool _
    rw [decide_eq_false (fun e=>by have:=(hx.1 e).1;simp [this] at h3)]
   ·(refine ob ?_ ?_;(first | trivial | omega | (simp only [inR];omega) | exact ble (by rfl) | exact SlR.some ‹_› (by omega));(conv=>whnf))
    exact RoundP.of (x + 1) (HeadP.of [] ⟨rfl,rfl,rfl,trivial⟩ trivial) ⟨hlt,by rw [hx];exact ⟨fun h=>h.2,fun h=>⟨by simpa using h3,h⟩⟩⟩ (by simp only;omega)
  ·refine FinP.mk ?_
   have:l = k:=hx.2 (by rw [List.drop_eq_nil_of_le (by omega),List.drop_eq_nil_of_le (by omega)])
   show Value.bool true = .bool _
   rw [decide_eq_true this]
theorem read30:Sound Try.prog 29 id (grel (args1 (slRd viE) fun l=>l.length≤100000) fun l v G=>SlV strE G v (l.map (·.t))):=by
 refine comp30.grel (Tab.nil _) (ok1 _ _) (fun args G s h=>?_) (fun x v G G' hg h=>h.grow hg) (fun args G l h=>?_)
 ·obtain ⟨v,rfl,_⟩:=h;simp
 ·obtain ⟨v,rfl,⟨a,n,c,rfl,hl,hn⟩,hb⟩:=h
  have hlen:=hl.len
  (conv=>whnf)
  refine LoopP.of { α:=Nat × Nat × List Value,fr:=fun x=>[(0, .v (.slice a n c)),(3, .c (.row 1 x.2.1)),(4, .v (I x.1))],H:=fun x=>[(1, .row none x.2.1 x.2.2 9 1)],ok:=fun x _=>x.1≤l.length∧Row strE ((l.map (·.t)).take x.1) x.2.1 x.2.2,m:=fun x=>l.length - x.1 }
   (0,0,[]) (HeadP.of [(1,none)] ⟨rfl,rfl,rfl,trivial⟩ ⟨rfl,trivial⟩) ⟨Nat.zero_le _,Row.nil⟩ (fun _=>⟨rfl,rfl⟩) (fun x G' hG hx=>W.mk ?_)
  obtain ⟨i,m,vs⟩:=x
  obtain ⟨hi,hr⟩:=hx
  dsimp only at hi hr
  dsimp only
  have hm:m = i:=by rw [hr.n,List.length_take,List.length_map];omega
  replace hl:=SlR.grow (G:=G) (G':=G') (fun _ _ h=>h) hl hG
  (conv=>whnf)
  refine IteP.mk (fun hlt=>W.mk ?_) (fun hge=>W.mk ?_)<;>(conv=>whnf)
  ·have hlt:i < l.length:=by omega
   have hc:=hl.el hlt
   have hr2:=hr.snoc l[i].t
   have htk:(l.map (·.t)).take i++[l[i].t] = (l.map (·.t)).take (i + 1):=by
    rw [List.take_add_one,List.getElem?_map,List.getElem?_eq_getElem hlt];rfl
   rw [htk] at hr2
   repeat' (first | (refine ob ?_ ?_;(first | trivial | omega | (simp only [inR];omega) | exact ble (by rfl) | exact SlR.some ‹_› (by omega));(conv=>whnf)) | (first | (refine ra ‹_› (by rfl) ?_;(conv=>whnf)) | (refine rb ‹_› (by rfl) ?_;(conv=>whnf)) | (refine rc ‹_› (by rfl) ?_;(conv=>whnf)) | (refine rd ‹_› (by rfl) ?_;(conv=>whnf))))
   exact RoundP.of (i + 1,m + 1,_) (HeadP.of [(1,some 14)] ⟨rfl,rfl,rfl,trivial⟩ ⟨rfl,trivial⟩) ⟨hlt,hr2⟩ (by show l.length - (i + 1) < l.length - i;omega)
  ·have:i = l.length:=by omega
   subst this
   rw [List.take_of_length_le (by simp)] at hr
   refine PubP.mk (fun ga gc G4 hg4 hp=>W.mk ?_)
   (conv=>whnf)
   exact FinP.mk (hr.pub hp (by omega))
end Go.Proofs.Ytfppbjfbghaclaa

namespace Go.Proofs.Ytfppbjfbghaclaa
open Go.Pal Go.RowKit
set_option maxRecDepth 100000
theorem okU:GOk (fun args _ (_:Unit)=>args = []):=⟨fun _ _ _ _ _ _=>rfl,fun _ _ _ _ _ h=>h⟩
theorem SlR.ofPub {α:Type} {k:Nat} {R:Hp→List Value→α→Prop} {G:Hp} {a:Option Addr} {n c:Nat} {l:List α} {vs:List Value} (h:PubRow G a n c vs) (hl:l.length = n) (hk:∀ i (hi:i < l.length),((vs.drop (i * k)).take k).length = k∧R G ((vs.drop (i * k)).take k) l[i]):SlR k R G a n c l :=
 ⟨hl,h.cap,h.some,fun i hi=>⟨_,(hk i hi).1,h.cells.drop,(hk i hi).2⟩⟩
def allT:List ByteArray:=[ByteArray.mk (Array.mk [116,104,101]),ByteArray.mk (Array.mk [104,111,110,111,117,114,97,98,108,101]),ByteArray.mk (Array.mk [109,101,109,98,101,114]),ByteArray.mk (Array.mk [101,114]),ByteArray.mk (Array.mk [115,97,121,115]),ByteArray.mk (Array.mk [110,111])]
def secT:List Int:=[1,1,2,3,4,5]
def wordsT (i:Nat):List Wo:=(List.range i).map fun i=>⟨allT.getD i default,secT.getD i 0,7⟩
def speechD:Dr:=⟨wordsT 6,[5]⟩
def speechS:List Sp:=[⟨0,3,1,[]⟩,⟨0,4,0,[ByteArray.mk (Array.mk [116,104,97,116])]⟩,⟨0,1,2,[ByteArray.mk (Array.mk [77,101,109,98,101,114])]⟩]
def speechR (_:Unit) (v:Value) (G:Hp):Prop:=∃ w a,v = .tuple #[w, .slice a 3 3]∧drRd.R G w speechD∧SlR 4 SpC G a 3 3 speechS
theorem speech41:Sound Try.prog 4 id (grel (fun args _ (_:Unit)=>args = []) speechR):=by
 refine comp41x.grelX (Tab.nil _) okU (fun args G s h=>by rw [h];simp) (fun x v G G' hg ⟨w,a,h,h1,h2⟩=>⟨w,a,h,drRd.grow hg h1,SlR.grow (G:=G) (G':=G') (fun cs x h=>SpC.grow cs x hg h) h2 hg⟩) (fun args G x h=>?_)
 rw [h]
 (conv=>whnf)
 refine RelP.mk trivial (fun v G1 hg1 hq=>W.mk ?_)
 obtain ⟨ta,rfl,hp1⟩:=hq
 have hl1:SlR strE.k strE.R G1 ta 6 6 allT:=hp1.sl rfl rfl
 (conv=>whnf)
 refine RelP.mk trivial (fun v G2 hg2 hq=>W.mk ?_)
 obtain ⟨sa,rfl,hp2⟩:=hq
 have hl2:SlR intE.k intE.R G2 sa 6 6 secT:=hp2.sl rfl rfl
 (conv=>whnf)
 refine LoopP.of { α:=Nat × Nat × List Value,fr:=fun x=>[(0, .c (.ptr 5000 0)),(1, .v (.slice none 0 0)),(2, .c (.ptr 5002 0)),(3, .v (.slice ta 6 6)),(4, .v (.slice sa 6 6)),(5, .v (I x.1))],H:=fun x=>[(5000, .cells .anon [.val (.slice none 0 0), .val (.slice none 0 0)] 25),(5002, .cells .anon [.row 5003 x.2.1, .val (.slice none 0 0)] 25),(5003, .row none x.2.1 x.2.2 51 3)],ok:=fun x _=>x.1≤6∧Row woE (wordsT x.1) x.2.1 x.2.2,m:=fun x=>6 - x.1 }
  (0,0,[]) (HeadP.of [(5003,none)] ⟨rfl,rfl,rfl,rfl,rfl,rfl,trivial⟩ ⟨rfl,rfl,rfl,trivial⟩) ⟨Nat.zero_le _,Row.nil⟩ (fun _=>⟨rfl,rfl⟩) (fun x G3 hg3 hx=>W.mk ?_)
 obtain ⟨i,m,vs⟩:=x
 obtain ⟨hi,hr⟩:=hx
 dsimp only at hi hr
 dsimp only
 have hm:m = i:=by rw [hr.n,wordsT,List.length_map,List.length_range]
 (conv=>whnf)
 refine IteP.mk (fun hlt=>W.mk ?_) (fun hge=>W.mk ?_)<;>(conv=>whnf)
 ·have hlt:i < 6:=by omega
  have hc1:=(SlR.grow (G:=G1) (G':=G3) (fun _ _ h=>h) hl1 (hg2.trans hg3)).el (i:=i) hlt
  have hc2:=(SlR.grow (G:=G2) (G':=G3) (fun _ _ h=>h) hl2 hg3).el (i:=i) hlt
  have e1:allT.getD i default = allT[i]'hlt:=by rw [List.getD_eq_getElem?_getD,List.getElem?_eq_getElem (show i < allT.length from hlt)];rfl
  have e2:secT.getD i 0 = secT[i]'hlt:=by rw [List.getD_eq_getElem?_getD,List.getElem?_eq_getElem (show i < secT.length from hlt)];rfl
  have hr2:=hr.snoc ⟨allT.getD i default,secT.getD i 0,7⟩
  have hw:wordsT i++[⟨allT.getD i default,secT.getD i 0,7⟩] = wordsT (i + 1):=by rw [wordsT,wordsT,List.range_succ,List.map_append];rfl
  rw [hw,e1,e2] at hr2
  generalize allT[i]'hlt = t at hc1 hr2
  generalize secT[i]'hlt = s at hc2 hr2
  repeat' (first | (refine ob ?_ ?_;(first | trivial | omega | (simp only [inR];omega) | exact ble (by rfl) | exact SlR.some ‹_› (by omega));(conv=>whnf)) | (first | (refine ra ‹_› (by rfl) ?_;(conv=>whnf)) | (refine rb ‹_› (by rfl) ?_;(conv=>whnf)) | (refine rc ‹_› (by rfl) ?_;(conv=>whnf)) | (refine rd ‹_› (by rfl) ?_;(conv=>whnf))))
  exact RoundP.of (i + 1,m + 1,_) (HeadP.of [(5003,some 5024)] ⟨rfl,rfl,rfl,rfl,rfl,rfl,trivial⟩ ⟨rfl,rfl,rfl,trivial⟩) ⟨hlt,hr2⟩ (by show 6 - (i + 1) < 6 - i;omega)
 ·have:i = 6:=by omega
  subst this
  (conv=>whnf)
  refine RelP.mk trivial (fun v G4 hg4 hq=>W.mk ?_)
  obtain ⟨ka,rfl,hp4⟩:=hq
  (conv=>whnf)
  refine RelP.mk trivial (fun v G5 hg5 hq=>W.mk ?_)
  obtain ⟨pa,rfl,hp5⟩:=hq
  (conv=>whnf)
  refine RelP.mk trivial (fun v G6 hg6 hq=>W.mk ?_)
  obtain ⟨qa,rfl,hp6⟩:=hq
  (conv=>whnf)
  refine RelP.mk trivial (fun v G7 hg7 hq=>W.mk ?_)
  obtain ⟨ra,rfl,hp7⟩:=hq
  (conv=>whnf)
  refine PubAnyP.mk ⟨[],W.mk ?_⟩
  (conv=>whnf)
  refine PubP.mk (fun ga gc G8 hg8 hp8=>W.mk ?_)
  (conv=>whnf)
  refine FinP.mk ⟨_,ra,rfl,⟨_,_,rfl,hr.pub hp8 (by omega),(SlV.grow (hg5.trans (hg6.trans (hg7.trans hg8))) (hp4.slV (e:=intE) (l:=[5]) rfl rfl (by omega)))⟩,SlR.ofPub (hp7.grow hg8) rfl fun i hi=>?_⟩
  have h5:SlV strE G8 (.slice pa 1 1) [ByteArray.mk (Array.mk [116,104,97,116])]:=SlV.grow (hg6.trans (hg7.trans hg8)) (hp5.slV rfl rfl (by omega))
  have h6:SlV strE G8 (.slice qa 1 1) [ByteArray.mk (Array.mk [77,101,109,98,101,114])]:=SlV.grow (hg7.trans hg8) (hp6.slV rfl rfl (by omega))
  match i,hi with
  | 0,_=>exact ⟨rfl,_,rfl,SlV.nil⟩
  | 1,_=>exact ⟨rfl,_,rfl,h5⟩
  | 2,_=>exact ⟨rfl,_,rfl,h6⟩
  | n + 3,h=>exact absurd h (by show ¬ n + 3 < 3;omega)
end Go.Proofs.Ytfppbjfbghaclaa

namespace Go.Proofs.Ytfppbjfbghaclaa
open Go.Pal Go.RowKit
set_option maxRecDepth 100000
theorem incr_uniq:∀ {l l':List Int},l.Pairwise (· < ·)→l'.Pairwise (· < ·)→(∀ x,x∈l↔x∈l')→l = l'
 | [],[],_,_,_=>rfl
 | [],y :: r,_,_,h=>by have:=(h y).2 (by simp);simp at this
 | x :: r,[],_,_,h=>by have:=(h x).1 (by simp);simp at this
 | x :: r,y :: r',h1,h2,h=>by
  obtain ⟨a1,a2⟩:=List.pairwise_cons.1 h1
  obtain ⟨b1,b2⟩:=List.pairwise_cons.1 h2
  have e:x = y:=by
   rcases List.mem_cons.1 ((h x).1 (by simp)) with e | e
   ·exact e
   ·rcases List.mem_cons.1 ((h y).2 (by simp)) with e' | e'
    ·exact e'.symm
    ·have:=a1 y e';have:=b1 x e;omega
  subst e
  refine congrArg _ (incr_uniq a2 b2 fun z=>⟨fun hz=>?_,fun hz=>?_⟩)
  ·rcases List.mem_cons.1 ((h z).1 (by simp [hz])) with e | e
   ·have:=a1 z hz;omega
   ·exact e
  ·rcases List.mem_cons.1 ((h z).2 (by simp [hz])) with e | e
   ·have:=b1 z hz;omega
   ·exact e
def insI (x:Int):List Int→List Int
 | []=>[x]
 | y :: r=>if x < y then x :: y :: r else if x = y then y :: r else y :: insI x r
def srt (l:List Int):List Int:=l.foldr insI []
theorem insI_mem {x z:Int}:∀ {l:List Int},z∈insI x l↔z = x∨z∈l
 | []=>by simp [insI]
 | y :: r=>by
  unfold insI
  split
  ·simp
  ·split
   ·rename_i e;subst e;simp
   ·simp only [List.mem_cons,insI_mem (l:=r)]
    exact ⟨fun h=>h.elim (fun h=>.inr (.inl h)) fun h=>h.elim .inl fun h=>.inr (.inr h),fun h=>h.elim (fun h=>.inr (.inl h)) fun h=>h.elim .inl fun h=>.inr (.inr h)⟩
theorem insI_lt {x:Int}:∀ {l:List Int},l.Pairwise (· < ·)→(insI x l).Pairwise (· < ·)
 | [],_=>by simp [insI]
 | y :: r,h=>by
  obtain ⟨a1,a2⟩:=List.pairwise_cons.1 h
  unfold insI
  split
  ·rename_i hlt
   refine List.pairwise_cons.2 ⟨fun z hz=>?_,h⟩
   rcases List.mem_cons.1 hz with rfl | hz
   ·exact hlt
   ·have:=a1 z hz;omega
  ·split
   ·exact h
   ·refine List.pairwise_cons.2 ⟨fun z hz=>?_,insI_lt a2⟩
    rcases insI_mem.1 hz with rfl | hz
    ·omega
    ·exact a1 z hz
theorem srt_mem {z:Int}:∀ {l:List Int},z∈srt l↔z∈l
 | []=>Iff.rfl
 | x :: r=>by
  have:srt (x :: r) = insI x (srt r):=rfl
  rw [this,insI_mem,srt_mem (l:=r),List.mem_cons]
theorem srt_lt:∀ (l:List Int),(srt l).Pairwise (· < ·)
 | []=>List.Pairwise.nil
 | x :: r=>insI_lt (srt_lt r)
theorem sortF_eq (l:List Int):sortF l = srt l:=incr_uniq (sortF_lt l) (srt_lt l) fun x=>by rw [sortF_mem,srt_mem]
def srcM (L:List It):Nat→Int→List Int
 | 0,_=>[]
 | f + 1,m=>srt ((L.filter fun y=>decide (y.g = m)).flatMap fun y=>if 0≤y.o then [y.o] else srcM L f y.m)
theorem srcN_eq (L:List It):∀ (f:Nat) (m:Int),srcN L f m = srcM L f m
 | 0,_=>rfl
 | f + 1,m=>by simp only [srcN,srcM,sortF_eq,srcN_eq L f]
def ofM (L:List It) (x:It):List Int:=if 0≤x.o then [x.o] else srcM L x.m.toNat x.m
theorem ofF_eq (L:List It) (x:It):ofF L x = ofM L x:=by simp only [ofF,ofM,grpF,srcN_eq]
def traceM (d:Dr) (src:List Int):Tr:=⟨src,fstN d src src.length,lstN d src src.length,srt (repN d src src.length)⟩
def tracesM (d:Dr) (S:Sh):List Tr:=(placesF S.its).map fun i=>traceM d (ofM S.its (S.its.getD i default))
theorem tracesF_eq (d:Dr) (S:Sh):tracesF d S = tracesM d S:=by simp only [tracesF,tracesM,traceF,traceM,sortF_eq,ofF_eq]
def lostM (d:Dr) (S:Sh):List Int:=((List.range d.ws.length).filter fun (k:Nat)=>!decide ((k:Int)∈(placesF S.its).flatMap fun i=>ofM S.its (S.its.getD i default))).map fun (k:Nat)=>(k:Int)
theorem lostF_eq (d:Dr) (S:Sh):lostF d S = lostM d S:=by simp only [lostF,lostN,lostM,srcsN,ofF_eq,List.take_length]
def shownT1:List ByteArray:=[ByteArray.mk (Array.mk [116,104,101]),ByteArray.mk (Array.mk [77,101,109,98,101,114]),ByteArray.mk (Array.mk [115,97,121,115]),ByteArray.mk (Array.mk [116,104,97,116]),ByteArray.mk (Array.mk [110,111])]
def shownT2:List ByteArray:=[ByteArray.mk (Array.mk [116,104,101]),ByteArray.mk (Array.mk [77,101,109,98,101,114]),ByteArray.mk (Array.mk [101,114]),ByteArray.mk (Array.mk [115,97,121,115]),ByteArray.mk (Array.mk [116,104,97,116]),ByteArray.mk (Array.mk [110,111])]
def speechS2:List Sp:=speechS++[⟨1,0,0,[]⟩]
theorem speech_ok1:(match endF speechD speechS with
  | .ok S=>decide ((shownF S).map (·.t) = shownT1) && decide (S.live = [1,2,3]) && decide ((tracesM speechD S).map (·.src) = [[0],[1,2],[4],[],[5]]) && decide ((tracesM speechD S).map (·.f) = [1,1,4, -1,5]) && decide ((tracesM speechD S).map (·.l) = [1,2,4, -1,5]) && decide (lostM speechD S = [3])
  | _=>false) = true:=by decide +kernel
theorem speech_ok2:(match endF speechD speechS2 with
  | .ok S=>decide ((shownF S).map (·.t) = shownT2)
  | _=>false) = true:=by decide +kernel
theorem CellsAt.app {G:Hp} {b o:Nat} {cs ds:List Value} (h1:CellsAt G b o cs) (h2:CellsAt G b (o + cs.length) ds):CellsAt G b o (cs++ds):=fun j v hj=>by
 by_cases hl:j < cs.length
 ·rw [List.getElem?_append_left hl] at hj;exact h1 j v hj
 ·rw [List.getElem?_append_right (by omega)] at hj
  have:=h2 _ v hj
  rwa [show o + cs.length + (j - cs.length) = o + j by omega] at this
theorem raw_cells {α:Type} {k:Nat} {R:List Value→α→Prop} {G:Hp} {b:Nat} (hone:∀ cs x,R cs x→∀ v∈cs,v.oneCell' = true):∀ {l:List α} {o:Nat},(∀ i (h:i < l.length), ∃ cs,cs.length = k∧CellsAt G b (o + i * k) cs∧R cs l[i]) →
  ∃ vs,vs.length = l.length * k∧CellsAt G b o vs∧(∀ v∈vs,v.oneCell' = true)∧∀ i (h:i < l.length),((vs.drop (i * k)).take k).length = k∧R ((vs.drop (i * k)).take k) l[i]
 | [],o,_=>⟨[],by simp,fun j v hj=>by simp at hj,fun v hv=>absurd hv List.not_mem_nil,fun i h=>absurd h (Nat.not_lt_zero i)⟩
 | x :: r,o,h=>by
  obtain ⟨cs,c1,c2,c3⟩:=h 0 (by simp)
  obtain ⟨vs,v1,v2,v3,v4⟩:=raw_cells hone (l:=r) (o:=o + k) fun i hi=>by
   obtain ⟨ds,d1,d2,d3⟩:=h (i + 1) (by simp;omega)
   exact ⟨ds,d1,by rwa [show o + k + i * k = o + (i + 1) * k by rw [Nat.add_mul];omega],by simpa using d3⟩
  refine ⟨cs++vs,by rw [List.length_append,c1,v1,List.length_cons,Nat.add_mul];omega,CellsAt.app (by simpa using c2) (by rw [c1];exact v2),fun v hv=>?_,fun i hi=>?_⟩
  ·rcases List.mem_append.1 hv with hv | hv
   ·exact hone _ _ c3 v hv
   ·exact v3 v hv
  ·cases i with
   | zero =>
    rw [Nat.zero_mul,List.drop_zero,List.take_append_of_le_length (by omega),List.take_of_length_le (by omega)]
    exact ⟨c1,c3⟩
   | succ i =>
    have:=v4 i (by simpa using hi)
    rw [List.drop_append,List.drop_of_length_le (by rw [c1,Nat.add_mul];omega),List.nil_append,c1,show (i + 1) * k - k = i * k by rw [Nat.add_mul];omega]
    exact ⟨this.1,by simpa using this.2⟩
theorem SpC.one {G:Hp} {cs:List Value} {x:Sp} (h:SpC G cs x):∀ v∈cs,v.oneCell' = true:=by
 obtain ⟨pv,rfl,a,n,c,rfl,_⟩:=h
 intro v hv
 simp only [List.mem_cons,List.not_mem_nil,or_false] at hv
 rcases hv with rfl | rfl | rfl | rfl<;>rfl
theorem sps_snoc {G:Hp} {a:Option Addr} {n c:Nat} {vs us:List Value} {l:List Sp} {x:Sp} (hl:l.length = n) (hp:PubRow G a (n + 1) c (vs++us)) (hv:vs.length = n * 4) (hvs:∀ i (h:i < l.length),((vs.drop (i * 4)).take 4).length = 4∧SpC G ((vs.drop (i * 4)).take 4) l[i]) (hu:us.length = 4) (hx:SpC G us x):SlR 4 SpC G a (n + 1) c (l++[x]):=by
 refine SlR.ofPub hp (by simp [hl]) fun i hi=>?_
 by_cases h:i < l.length
 ·rw [List.getElem_append_left h]
  have:((vs++us).drop (i * 4)).take 4 = (vs.drop (i * 4)).take 4:=by
   rw [List.drop_append_of_le_length (by omega),List.take_append_of_le_length (by rw [List.length_drop];omega)]
  rw [this];exact hvs i h
 ·have:i = l.length:=by simp at hi;omega
  subst this
  have e:(l++[x])[l.length] = x:=by simp
  rw [e,List.drop_append,List.drop_of_length_le (by omega),List.nil_append,show l.length * 4 - vs.length = 0 by omega,List.drop_zero,List.take_of_length_le (by omega)]
  exact ⟨hu,hx⟩
theorem speech_end1:∃ S,endF speechD speechS = .ok S∧(shownF S).map (·.t) = shownT1∧S.live = [1,2,3]∧(tracesF speechD S).map (·.src) = [[0],[1,2],[4],[],[5]]∧(tracesF speechD S).map (·.f) = [1,1,4, -1,5]∧(tracesF speechD S).map (·.l) = [1,2,4, -1,5]∧lostF speechD S = [3]:=by
 have h:=speech_ok1
 generalize endF speechD speechS = e at h
 cases e with
 | ok S =>
  simp only [Bool.and_eq_true,decide_eq_true_eq] at h
  refine ⟨S,rfl,h.1.1.1.1.1,h.1.1.1.1.2, ?_, ?_, ?_, ?_⟩
  ·rw [tracesF_eq];exact h.1.1.1.2
  ·rw [tracesF_eq];exact h.1.1.2
  ·rw [tracesF_eq];exact h.1.2
  ·rw [lostF_eq];exact h.2
 | _=>cases h
theorem speech_end2:∃ S,endF speechD speechS2 = .ok S∧(shownF S).map (·.t) = shownT2:=by
 have h:=speech_ok2
 generalize endF speechD speechS2 = e at h
 cases e with
 | ok S=>exact ⟨S,rfl,of_decide_eq_true h⟩
 | _=>cases h
set_option maxHeartbeats 1000000 in
theorem awake15:Sound Try.prog 12 id (gsca (fun args _ (_:Unit)=>args = []) fun _ v=>v = .bool true):=by
 refine comp15.gsca (Tab.cons 4 _ speech41 body41 (Tab.cons 8 _ play26 body26 (Tab.cons 6 _ traces16 body16 (Tab.cons 29 _ read30 body30 (Tab.cons 10 _ strings29 body29 (Tab.cons 9 _ ints23 body23 (Tab.nil _))))))) (fun args G s h=>by rw [h];simp) (fun args G x h=>?_)
 rw [h]
 obtain ⟨S1,e1,t1,l1,r1,r2,r3,o1⟩:=speech_end1
 obtain ⟨S2,e2,t2⟩:=speech_end2
 (conv=>whnf)
 refine RelP.g okU (x:=()) rfl (Grow.refl _) (fun v G1 hg1 hq=>W.mk ?_)
 obtain ⟨w,a,rfl,hd,hs⟩:=hq
 obtain ⟨b,o,rfl⟩:∃ b o,a = some ⟨b,o,none⟩:=⟨_,_,hs.some (by omega)⟩
 obtain ⟨dw,dk,rfl,hdw,hdk⟩:=id hd
 obtain ⟨wa,wn,wc,rfl,_,_⟩:=id hdw
 obtain ⟨ka,kn,kc,rfl,_,_⟩:=id hdk
 (conv=>whnf)
 refine RelP.g (ok2 drRd spsRd fun _ _=>True) (x:=(speechD,speechS)) ⟨_,_,rfl,hd,⟨_,_,_,rfl,hs,by unfold maxLen;omega⟩,trivial⟩ (Grow.refl _) (fun v G2 hg2 hq=>W.mk ?_)
 unfold showR at hq
 dsimp only at hq
 rw [e1] at hq
 obtain ⟨xa,xb,rfl,hx1,hx2⟩:=hq
 obtain ⟨xaa,xan,xac,rfl,_,_⟩:=id hx1
 obtain ⟨xba,xbn,xbc,rfl,_,_⟩:=id hx2
 (conv=>whnf)
 refine DrawP.mk monoT_nil rfl (W.mk ?_)
 (conv=>whnf)
 have hs2:=SlR.grow (G:=G1) (G':=G2) (fun cs x h=>SpC.grow cs x hg2 h) hs hg2
 obtain ⟨vs,v1,v2,v3,v4⟩:=raw_cells (R:=SpC G2) (fun cs x h=>h.one) hs2.at_
 repeat' (refine ob ?_ ?_;(first | trivial | omega | (simp only [inR];omega) | exact ble (by rfl) | exact SlR.some ‹_› (by omega));(conv=>whnf))
 refine RdP.at v2 v1 (W.mk ?_)
 (conv=>whnf)
 refine OblP.mk v3 (W.mk ?_)
 (conv=>whnf)
 repeat' (refine ob ?_ ?_;(first | trivial | omega | (simp only [inR];omega) | exact ble (by rfl) | exact SlR.some ‹_› (by omega));(conv=>whnf))
 refine PubP.mk (fun pa pc G3 hg3 hp3=>W.mk ?_)
 (conv=>whnf)
 have hs3:SlR 4 SpC G3 pa 4 pc speechS2:=sps_snoc rfl hp3 v1 (fun i hi=>⟨(v4 i hi).1,SpC.grow _ _ hg3 (v4 i hi).2⟩) rfl ⟨_,rfl,SlV.nil⟩
 refine FnvP.mk ⟨_,SoundFn.of body26 (Sound.bare play26),W.mk ?_⟩
 (conv=>whnf)
 refine RelP.g (ok2 drRd spsRd fun _ _=>True) (x:=(speechD,speechS2)) ⟨_,_,rfl,drRd.grow (hg2.trans hg3) hd,⟨_,_,_,rfl,hs3,by unfold maxLen;omega⟩,trivial⟩ (Grow.refl _) (fun v G4 hg4 hq=>W.mk ?_)
 unfold showR at hq
 dsimp only at hq
 rw [e2] at hq
 obtain ⟨ya,yb,rfl,hy1,hy2⟩:=hq
 obtain ⟨yaa,yan,yac,rfl,_,_⟩:=id hy1
 obtain ⟨yba,ybn,ybc,rfl,_,_⟩:=id hy2
 (conv=>whnf)
 refine RelP.g (ok2 drRd spsRd fun _ _=>True) (x:=(speechD,speechS)) ⟨_,_,rfl,drRd.grow (hg2.trans (hg3.trans hg4)) hd,⟨_,_,_,rfl,SlR.grow (G:=G1) (G':=G4) (fun cs x h=>SpC.grow cs x (hg2.trans (hg3.trans hg4)) h) hs (hg2.trans (hg3.trans hg4)),by unfold maxLen;omega⟩,trivial⟩ (Grow.refl _) (fun v G5 hg5 hq=>W.mk ?_)
 unfold tracesR at hq
 dsimp only at hq
 rw [e1] at hq
 obtain ⟨ua,ub,rfl,⟨ta,tn,tc,rfl,htr,htn⟩,hlo⟩:=hq
 have hlo2:=hlo
 obtain ⟨la,ln,lc,rfl,_,_⟩:=hlo2
 have htl:(tracesF speechD S1).length = 5:=by have:=congrArg List.length r2;simpa using this
 have htn5:tn = 5:=by rw [← htr.len,htl]
 subst htn5
 obtain ⟨tb,to,rfl⟩:∃ b o,ta = some ⟨b,o,none⟩:=⟨_,_,htr.some (by omega)⟩
 obtain ⟨cs,c1,c2,sa,sb,rfl,hsa,hsb⟩:=htr.at_ 1 (by rw [htl];omega)
 have q1:(tracesF speechD S1)[1].src = [1,2]:=by have:=congrArg (·[1]?) r1;simpa [htl] using this
 have q2:(tracesF speechD S1)[1].f = 1:=by have:=congrArg (·[1]?) r2;simpa [htl] using this
 have q3:(tracesF speechD S1)[1].l = 2:=by have:=congrArg (·[1]?) r3;simpa [htl] using this
 rw [q1] at hsa
 rw [q2,q3] at c2
 obtain ⟨saa,san,sac,rfl,_,_⟩:=id hsa
 rw [o1] at hlo
 rw [l1] at hx2
 have hn1:(shownF S1).length≤100000:=by have:=congrArg List.length t1;simp only [List.length_map] at this;rw [this];decide
 have hn2:(shownF S2).length≤100000:=by have:=congrArg List.length t2;simp only [List.length_map] at this;rw [this];decide
 (conv=>whnf)
 refine IteP.mk (fun _=>W.mk ?_) (fun h=>absurd rfl h)
 (conv=>whnf)
 refine RelP.g (ok1 (slRd viE) fun l=>l.length≤100000) (x:=shownF S1) ⟨_,rfl,SlV.grow (hg3.trans (hg4.trans hg5)) hx1,hn1⟩ (Grow.refl _) (fun v G6 hg6 hq=>W.mk ?_)
 rw [t1] at hq
 obtain ⟨za,zn,zc,rfl,_,_⟩:=id hq
 (conv=>whnf)
 refine PubP.mk (fun pa pc G7 hg7 hp=>W.mk ?_)
 (conv=>whnf)
 refine ScaP.g ((ok2 (slRd strE) (slRd strE)) fun _ _=>True) (x:=(shownT1,shownT1)) ⟨_,_,rfl,SlV.grow hg7 hq,hp.slV rfl rfl (by decide),trivial⟩ (fun v hv=>W.mk ?_)
 have hv:v = .bool true:=hv.trans (congrArg Value.bool (decide_eq_true rfl))
 subst hv
 clear hv
 (conv=>whnf)
 refine ForkP.mk (fun _=>W.mk ?_) (fun h=>by cases h)
 (conv=>whnf)
 refine PubP.mk (fun pa pc G8 hg8 hp=>W.mk ?_)
 (conv=>whnf)
 refine ScaP.g ((ok2 (slRd intE) (slRd intE)) fun _ _=>True) (x:=([1,2,3],[1,2,3])) ⟨_,_,rfl,SlV.grow hg8 (SlV.grow (hg3.trans (hg4.trans (hg5.trans (hg6.trans hg7)))) hx2),hp.slV rfl rfl (by decide),trivial⟩ (fun v hv=>W.mk ?_)
 have hv:v = .bool true:=hv.trans (congrArg Value.bool (decide_eq_true rfl))
 subst hv
 clear hv
 (conv=>whnf)
 refine ForkP.mk (fun _=>W.mk ?_) (fun h=>by cases h)
 (conv=>whnf)
 refine IteP.mk (fun _=>W.mk ?_) (fun h=>absurd rfl h)
 (conv=>whnf)
 have h8:=hg5.trans (hg6.trans (hg7.trans hg8))
 refine RelP.g (ok1 (slRd viE) fun l=>l.length≤100000) (x:=shownF S2) ⟨_,rfl,SlV.grow h8 hy1,hn2⟩ (Grow.refl _) (fun v G9 hg9 hq=>W.mk ?_)
 rw [t2] at hq
 obtain ⟨za2,zn2,zc2,rfl,_,_⟩:=id hq
 (conv=>whnf)
 refine PubP.mk (fun pa pc G10 hg10 hp=>W.mk ?_)
 (conv=>whnf)
 refine ScaP.g ((ok2 (slRd strE) (slRd strE)) fun _ _=>True) (x:=(shownT2,shownT2)) ⟨_,_,rfl,SlV.grow hg10 hq,hp.slV rfl rfl (by decide),trivial⟩ (fun v hv=>W.mk ?_)
 have hv:v = .bool true:=hv.trans (congrArg Value.bool (decide_eq_true rfl))
 subst hv
 clear hv
 (conv=>whnf)
 refine ForkP.mk (fun _=>W.mk ?_) (fun h=>by cases h)
 (conv=>whnf)
 refine IteP.mk (fun _=>W.mk ?_) (fun h=>absurd rfl h)
 (conv=>whnf)
 refine IteP.mk (fun _=>W.mk ?_) (fun h=>absurd rfl h)
 (conv=>whnf)
 have h10:=(hg6.trans (hg7.trans (hg8.trans (hg9.trans hg10))))
 have c3:=CellsAt.grow h10 c2
 repeat' (first | (refine ob ?_ ?_;(first | trivial | omega | (simp only [inR];omega) | exact ble (by rfl) | exact SlR.some ‹_› (by omega));(conv=>whnf)) | (first | (refine ra ‹_› (by rfl) ?_;(conv=>whnf)) | (refine rb ‹_› (by rfl) ?_;(conv=>whnf)) | (refine rc ‹_› (by rfl) ?_;(conv=>whnf)) | (refine rd ‹_› (by rfl) ?_;(conv=>whnf))))
 refine PubP.mk (fun pa pc G11 hg11 hp=>W.mk ?_)
 (conv=>whnf)
 refine ScaP.g ((ok2 (slRd intE) (slRd intE)) fun _ _=>True) (x:=([1,2],[1,2])) ⟨_,_,rfl,SlV.grow hg11 (SlV.grow h10 hsa),hp.slV rfl rfl (by decide),trivial⟩ (fun v hv=>W.mk ?_)
 have hv:v = .bool true:=hv.trans (congrArg Value.bool (decide_eq_true rfl))
 subst hv
 clear hv
 (conv=>whnf)
 refine ForkP.mk (fun _=>W.mk ?_) (fun h=>by cases h)
 (conv=>whnf)
 have c4:=CellsAt.grow hg11 c3
 repeat' (first | (refine ob ?_ ?_;(first | trivial | omega | (simp only [inR];omega) | exact ble (by rfl) | exact SlR.some ‹_› (by omega));(conv=>whnf)) | (first | (refine ra ‹_› (by rfl) ?_;(conv=>whnf)) | (refine rb ‹_› (by rfl) ?_;(conv=>whnf)) | (refine rc ‹_› (by rfl) ?_;(conv=>whnf)) | (refine rd ‹_› (by rfl) ?_;(conv=>whnf))))
 refine IteP.mk (fun _=>W.mk ?_) (fun h=>absurd rfl h)
 (conv=>whnf)
 repeat' (first | (refine ob ?_ ?_;(first | trivial | omega | (simp only [inR];omega) | exact ble (by rfl) | exact SlR.some ‹_› (by omega));(conv=>whnf)) | (first | (refine ra ‹_› (by rfl) ?_;(conv=>whnf)) | (refine rb ‹_› (by rfl) ?_;(conv=>whnf)) | (refine rc ‹_› (by rfl) ?_;(conv=>whnf)) | (refine rd ‹_› (by rfl) ?_;(conv=>whnf))))
 refine IteP.mk (fun _=>W.mk ?_) (fun h=>absurd rfl h)
 (conv=>whnf)
 refine PubP.mk (fun pa pc G12 hg12 hp=>W.mk ?_)
 (conv=>whnf)
 refine ScaP.g ((ok2 (slRd intE) (slRd intE)) fun _ _=>True) (x:=([3],[3])) ⟨_,_,rfl,SlV.grow hg12 (SlV.grow (h10.trans hg11) hlo),hp.slV rfl rfl (by decide),trivial⟩ (fun v hv=>W.mk ?_)
 have hv:v = .bool true:=hv.trans (congrArg Value.bool (decide_eq_true rfl))
 subst hv
 clear hv
 (conv=>whnf)
 refine ForkP.mk (fun _=>W.mk ?_) (fun h=>by cases h)
 (conv=>whnf)
 exact FinP.mk rfl
end Go.Proofs.Ytfppbjfbghaclaa

namespace Go.Proofs.Ytfppbjfbghaclaa
open Go.Pal Go.RowKit
set_option maxRecDepth 100000
def SlU {α:Type} (e:El α) (G:Hp) (v:Value) (l:List α):Prop:=∃ a n c,v = .slice a n c∧SlR e.k e.R G a n c l∧n≤maxLen
theorem SlU.uniq {α:Type} {e:El α} {G:Hp} {v:Value} {x y:List α} (h:SlU e G v x) (h':SlU e G v y):x = y:=by
 obtain ⟨a,n,c,rfl,h,_⟩:=h
 obtain ⟨a',n',c',e',h',_⟩:=h'
 cases e'
 exact h.uniq (fun cs x y h1 h2=>e.inj (h1.symm.trans h2)) h'
theorem SlU.grow {α:Type} {e:El α} {G G':Hp} {v:Value} {x:List α} (hg:Grow G G') (h:SlU e G v x):SlU e G' v x:=by
 obtain ⟨a,n,c,rfl,h,hn⟩:=h
 exact ⟨a,n,c,rfl,SlR.grow (G:=G) (G':=G') (fun _ _ h=>h) h hg,hn⟩
theorem SlV.u {α:Type} {e:El α} {G:Hp} {v:Value} {x:List α} (h:SlV e G v x):SlU e G v x:=by
 obtain ⟨a,n,c,rfl,h,hn⟩:=h
 exact ⟨a,n,c,rfl,h,by unfold maxLen;omega⟩
end Go.Proofs.Ytfppbjfbghaclaa

namespace Go.Proofs.Ytfppbjfbghaclaa
open Go.Pal Go.RowKit
set_option maxRecDepth 100000
def refProt (d:Dr) (x:It):Bool:=decide (0≤x.o) && decide (x.o∈d.ks)
end Go.Proofs.Ytfppbjfbghaclaa

namespace Go.Proofs.Ytfppbjfbghaclaa
open Go.Pal Go.RowKit
set_option maxRecDepth 100000
theorem range_all {n:Nat} {p:Nat→Bool}:(List.range n).all p = true↔∀ i < n,p i = true:=by simp [List.all_eq_true]
end Go.Proofs.Ytfppbjfbghaclaa
