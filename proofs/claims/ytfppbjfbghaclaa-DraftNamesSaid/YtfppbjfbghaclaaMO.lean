/- Layer 3, the seat of DraftNames: the speech, its words in the own heap. Layer 3, plain: the closed examples of DraftNames. Layer 3, the seat of DraftNames: the law. -/
import Derived.Test.YtfppbjfbghaclaaMD
import Derived.Test.YtfppbjfbghaclaaMC
import Derived.Test.YtfppbjfbghaclaaMK
import Derived.Test.YtfppbjfbghaclaaMN
import Derived.Test.YtfppbjfbghaclaaMI
set_option linter.unusedSimpArgs false
set_option linter.unusedVariables false
namespace Go.Proofs.Ytfppbjfbghaclaa
open Go.Pal Go.RowKit
set_option maxRecDepth 100000
def PlainH (p:Hp):Prop:=∀ b o,p b = some o→∃ ds t,o = .cells ds t (0,0)
theorem PlainH.upd {p:Hp} {b:Nat} {cs:Array Value} {t:TypeId} (h:PlainH p):PlainH (upd p b (some (.cells cs t (0,0)))):=fun k o e=>by
 by_cases hk:k = b
 ·subst hk;rw [upd_same] at e;cases e;exact ⟨_,_,rfl⟩
 ·rw [upd_other _ _ hk] at e;exact h k o e
theorem wordsT_succ (i:Nat):wordsT (i + 1) = wordsT i++[⟨allT.getD i default,secT.getD i 0,7⟩]:=by rw [wordsT,wordsT,List.range_succ,List.map_append];rfl
theorem wordsT_len (i:Nat):(wordsT i).length = i:=by simp [wordsT]
set_option maxHeartbeats 2000000 in
theorem speech4:Sound Try.prog 4 id (.hp (fun args p _=>args = []∧PlainH p) fun _ p v p' G=>PlainH p'∧∃ wv kv a,v = .tuple #[.agg #[wv,kv], .slice a 3 3]∧RowH woE 51 p' wv speechD.ws∧SlV intE G kv speechD.ks∧SlR 4 SpC G a 3 3 speechS):=by
 refine compN4.hx (Tab.nil _) (fun args p G h=>by rw [h.1];simp) (fun args p v p' G G' hg ⟨h0,wv,kv,a,h1,h2,h3,h4⟩=>⟨h0,wv,kv,a,h1,h2,h3.grow hg,SlR.grow (G:=G) (G':=G') (fun cs x h=>SpC.grow cs x hg h) h4 hg⟩) (fun args p G h=>?_)
 obtain ⟨rfl,hpl⟩:=h
 (conv=>whnf)
 refine RelP.mk trivial (fun v G1 hg1 hq=>W.mk ?_)
 obtain ⟨ta,rfl,hp1⟩:=hq
 have hl1:SlR strE.k strE.R G1 ta 6 6 allT:=hp1.sl rfl rfl
 (conv=>whnf)
 refine RelP.mk trivial (fun v G2 hg2 hq=>W.mk ?_)
 obtain ⟨sa,rfl,hp2⟩:=hq
 have hl2:SlR intE.k intE.R G2 sa 6 6 secT:=hp2.sl rfl rfl
 (conv=>whnf)
 refine LoopP.of { α:=Nat × Hp × Value,fr:=fun x=>[(0, .c (.ptr 3000 0)),(1, .v (.slice none 0 0)),(2, .c (.ptr 3002 0)),(3, .v (.slice ta 6 6)),(4, .v (.slice sa 6 6)),(5, .v (I x.1))],H:=fun x=>[(0, .heap x.2.1),(3000, .cells .anon [.val (.slice none 0 0), .val (.slice none 0 0)] 25),(3002, .cells .anon [.val x.2.2, .val (.slice none 0 0)] 25)],ok:=fun x _=>x.1≤6∧PlainH x.2.1∧RowH woE 51 x.2.1 x.2.2 (wordsT x.1),m:=fun x=>6 - x.1 }
  (0,p, .slice none 0 0) (HeadP.of [] ⟨rfl,rfl,rfl,rfl,rfl,rfl,trivial⟩ ⟨rfl,rfl,rfl,trivial⟩) ⟨Nat.zero_le _,hpl,RowH.nil⟩ (fun _=>⟨rfl,rfl⟩) (fun x G3 hg3 hx=>W.mk ?_)
 obtain ⟨i,q,wv⟩:=x
 obtain ⟨hi,hpq,hrow⟩:=hx
 dsimp only at hi hpq hrow
 dsimp only
 (conv=>whnf)
 refine IteP.mk (fun hlt=>W.mk ?_) (fun hge=>W.mk ?_)<;>(conv=>whnf)
 ·have hlt:i < 6:=by omega
  have hc1:=(SlR.grow (G:=G1) (G':=G3) (fun _ _ h=>h) hl1 (hg2.trans hg3)).el (i:=i) hlt
  have hc2:=(SlR.grow (G:=G2) (G':=G3) (fun _ _ h=>h) hl2 hg3).el (i:=i) hlt
  have e1:allT.getD i default = allT[i]'hlt:=by rw [List.getD_eq_getElem?_getD,List.getElem?_eq_getElem (show i < allT.length from hlt)];rfl
  have e2:secT.getD i 0 = secT[i]'hlt:=by rw [List.getD_eq_getElem?_getD,List.getElem?_eq_getElem (show i < secT.length from hlt)];rfl
  have hws:=wordsT_succ i
  have hwl:=wordsT_len i
  rw [e1,e2] at hws
  generalize allT[i]'hlt = t at hc1 hws
  generalize secT[i]'hlt = s at hc2 hws
  have hsa1:=(SlR.grow (G:=G1) (G':=G3) (fun _ _ h=>h) hl1 (hg2.trans hg3)).some (by omega)
  have hsa2:=(SlR.grow (G:=G2) (G':=G3) (fun _ _ h=>h) hl2 hg3).some (by omega)
  repeat' (first | (refine ob ?_ ?_;(first | trivial | omega | (simp only [inR];omega) | exact ble (by rfl) | exact SlR.some ‹_› (by omega));(conv=>whnf)))
  refine RdhP.g hc1 rfl (W.mk ?_)
  (conv=>whnf)
  repeat' (first | (refine ob ?_ ?_;(first | trivial | omega | (simp only [inR];omega) | exact ble (by rfl) | exact SlR.some ‹_› (by omega));(conv=>whnf)))
  refine RdhP.g hc2 rfl (W.mk ?_)
  (conv=>whnf)
  repeat' (first | (refine ob ?_ ?_;(first | trivial | omega | (simp only [inR];omega) | exact ble (by rfl) | exact SlR.some ‹_› (by omega));(conv=>whnf)))
  have hnext:∀ (q':Hp) (wv':Value),PlainH q'→RowH woE 51 q' wv' (wordsT i++[⟨t,s,7⟩])→i + 1≤6∧PlainH q'∧RowH woE 51 q' wv' (wordsT (i + 1)):=fun q' wv' h1 h2=>⟨by omega,h1,by rw [hws];exact h2⟩
  rcases hrow with ⟨rfl,hl0⟩ | ⟨b,c',rest,rfl,hb,hr,hc,hm⟩
  ·(conv=>whnf)
   refine OblP.mk rfl (W.mk ?_)
   (conv=>whnf)
   refine OblP.mk ⟨by omega,by omega⟩ (W.mk ?_)
   (conv=>whnf)
   refine AppnP.mk (fun b' cap rest' hb1 hb2 hb3 hb4=>W.mk ?_)
   (conv=>whnf)
   repeat' (refine ob ?_ ?_;(first | trivial | omega | (simp only [inR];omega) | exact ble (by rfl) | exact SlR.some ‹_› (by omega));(conv=>whnf))
   refine RoundP.of (i + 1,upd q b' (some (.cells (woE.f ⟨t,s,7⟩++rest').toArray 51 (0,0))), .slice (some ⟨b',0,none⟩) 1 cap) (HeadP.of [] ⟨rfl,rfl,rfl,rfl,rfl,rfl,trivial⟩ ⟨rfl,rfl,rfl,trivial⟩) (hnext _ _ hpq.upd (by rw [hl0];exact RowH.appNew (E:=woE) (l:=[]) (us:=[⟨t,s,7⟩]) (vs:=[]) rfl hb4 hb2 hb3)) (by simp only;omega)
  ·have hin:=fun hc2=>RowH.appIn (t:=51) (p:=q) (b:=b) (us:=[(⟨t,s,7⟩:Wo)]) hr hc2 hm
   have hnw:=fun (b' cap:Nat) (rest':List Value)=>RowH.appNew (t:=51) (p:=q) (b:=b') (c:=cap) (l:=wordsT i) (us:=[⟨t,s,7⟩]) (vs:=(flat woE (wordsT i)++rest).take ((wordsT i).length * woE.k)) (rest':=rest') take_flat
   have hone:∀ u∈(flat woE (wordsT i)++rest).take ((wordsT i).length * woE.k),u.oneCell' = true:=by rw [take_flat];exact flat_one _ _
   have hlen2:(flat woE (wordsT i)++rest).length = c' * 3:=by rw [List.length_append,flat_len,hr,show woE.k = 3 from rfl];omega
   rw [hwl] at hc hin hnw hone
   rw [hwl]
   (conv=>whnf)
   refine HpkP.mk ⟨_,51,hb,W.mk ?_⟩
   (conv=>whnf)
   refine OblP.mk ⟨rfl,rfl,hlen2,hc,hm,hone⟩ (W.mk ?_)
   (conv=>whnf)
   refine OblP.mk rfl (W.mk ?_)
   (conv=>whnf)
   refine OblP.mk ⟨by omega,by omega⟩ (W.mk ?_)
   (conv=>whnf)
   refine IteP.mk (fun hcap=>W.mk ?_) (fun hcap=>W.mk ?_)<;>(conv=>whnf)
   ·repeat' (refine ob ?_ ?_;(first | trivial | omega | (simp only [inR];omega) | exact ble (by rfl) | exact SlR.some ‹_› (by omega));(conv=>whnf))
    have hok:=hnext _ _ hpq.upd (hin (by simp only [List.length_singleton];omega))
    refine RoundP.of (i + 1,_,_) ?_ hok (by simp only;omega)
    exact HeadP.of [] ⟨rfl,rfl,rfl,rfl,rfl,rfl,trivial⟩ ⟨rfl,rfl,rfl,trivial⟩
   ·refine AppnP.mk (fun b' cap rest' hb1 hb2 hb3 hb4=>W.mk ?_)
    (conv=>whnf)
    repeat' (refine ob ?_ ?_;(first | trivial | omega | (simp only [inR];omega) | exact ble (by rfl) | exact SlR.some ‹_› (by omega));(conv=>whnf))
    have hok:=hnext _ _ hpq.upd (hnw b' cap rest' hb4 hb2 hb3)
    refine RoundP.of (i + 1,_,_) ?_ hok (by simp only;omega)
    exact HeadP.of [] ⟨rfl,rfl,rfl,rfl,rfl,rfl,trivial⟩ ⟨rfl,rfl,rfl,trivial⟩
 ·have:i = 6:=by omega
  subst this
  refine RelP.mk trivial (fun v G4 hg4 hq=>W.mk ?_)
  obtain ⟨ka,rfl,hp4⟩:=hq
  (conv=>whnf)
  refine RelP.mk trivial (fun v G5 hg5 hq=>W.mk ?_)
  obtain ⟨pa,rfl,hp5⟩:=hq
  (conv=>whnf)
  refine RelP.mk trivial (fun v G6 hg6 hq=>W.mk ?_)
  obtain ⟨qa,rfl,hp6⟩:=hq
  (conv=>whnf)
  refine RelP.mk trivial (fun v G7 hg7 hq=>W.mk ?_)
  obtain ⟨ra,rfl,hp7⟩:=hq
  obtain ⟨za,zc,rfl⟩:=hrow.sl
  (conv=>whnf)
  refine NmP.mk ⟨[],W.mk ?_⟩
  (conv=>whnf)
  refine FinHp.of rfl ⟨hpq,_,_,ra,rfl,hrow,SlV.grow (hg5.trans (hg6.trans hg7)) (hp4.slV (e:=intE) (l:=[5]) rfl rfl (by omega)),SlR.ofPub hp7 rfl fun i hi=>?_⟩
  have h5:SlV strE G7 (.slice pa 1 1) [ByteArray.mk (Array.mk [116,104,97,116])]:=SlV.grow (hg6.trans hg7) (hp5.slV rfl rfl (by omega))
  have h6:SlV strE G7 (.slice qa 1 1) [ByteArray.mk (Array.mk [77,101,109,98,101,114])]:=SlV.grow hg7 (hp6.slV rfl rfl (by omega))
  match i,hi with
  | 0,_=>exact ⟨rfl,_,rfl,SlV.nil⟩
  | 1,_=>exact ⟨rfl,_,rfl,h5⟩
  | 2,_=>exact ⟨rfl,_,rfl,h6⟩
  | n + 3,h=>exact absurd h (by show ¬ n + 3 < 3;omega)
end Go.Proofs.Ytfppbjfbghaclaa

namespace Go.Proofs.Ytfppbjfbghaclaa
open Go.Pal Go.RowKit
set_option maxRecDepth 100000
def runF (d:Dr) (rs:List Rul):Nat→List It→Int→Nat→Nat→List Sp→Option (Option (List Sp))
 | 0,_,_,_,_,_=>none
 | n + 1,v,c,i,a,out=>if rs.length≤i then some (some out) else if v.length≤a then runF d rs n v c (i + 1) 0 out
  else if foundF d v (rs.getD i default) a = true then (if 80≤out.length then some none else runF d rs n (chV v c (rs.getD i default) a) (c + 1) i (a + (rs.getD i default).p.length) (out++[stepR (rs.getD i default) a]))
  else runF d rs n v c i (a + 1) out
theorem runF_run {d:Dr} {rs:List Rul}:∀ {n:Nat} {v:List It} {c:Int} {i a:Nat} {out:List Sp} {r:Option (List Sp)},runF d rs n v c i a out = some r→Run d rs v c i a out r
 | 0,_,_,_,_,_,_,h=>by cases h
 | n + 1,v,c,i,a,out,r,h=>by
  simp only [runF] at h
  split at h
  ·cases h;exact .done ‹_›
  ·split at h
   ·exact .next (by omega) ‹_› (runF_run h)
   ·split at h
    ·split at h
     ·cases h;exact .full (by omega) (by omega) ‹_› ‹_›
     ·exact .hit (by omega) (by omega) ‹_› (by omega) (runF_run h)
    ·exact .skip (by omega) (by omega) (by simpa using ‹¬ _ = true›) (runF_run h)
abbrev tMEMBER:ByteArray:=ByteArray.mk (Array.mk [77,69,77,66,69,82])
abbrev tMember:ByteArray:=ByteArray.mk (Array.mk [77,101,109,98,101,114])
def moreS3:List Sp:=[⟨0,1,1,[tMEMBER]⟩,⟨3,0,0,[]⟩]
def moreZ:List Sp:=[⟨0,0,0,[]⟩]
def more4:List Sp:=[⟨4,0,0,[]⟩]
def rulesT:List Rul:=[⟨[ByteArray.mk (Array.mk [101,114])],[]⟩,⟨[ByteArray.mk (Array.mk [104,111,110,111,117,114,97,98,108,101]),ByteArray.mk (Array.mk [109,101,109,98,101,114])],[tMember]⟩]
def speechD2:Dr:=⟨speechD.ws.set 0 ⟨ByteArray.mk (Array.mk [116,104,101]),2,7⟩,[5]⟩
def failsAt (e:End) (k:Nat):Bool:=match e with
 | .fail n=>n == k
 | _=>false
theorem failsAt_eq {e:End} {k:Nat} (h:failsAt e k = true):e = .fail k:=by
 cases e<;>simp_all [failsAt]
theorem end_5:endF speechD [⟨0,5,1,[]⟩] = .fail 0:=failsAt_eq (by decide +kernel)
theorem end_3:endF speechD (speechS++moreS3) = .fail 4:=failsAt_eq (by decide +kernel)
theorem end_z:endF speechD (speechS++moreZ) = .fail 3:=failsAt_eq (by decide +kernel)
theorem end_4:endF speechD (speechS++more4) = .fail 3:=failsAt_eq (by decide +kernel)
theorem valid_speech:validF speechD = true:=by decide +kernel
theorem end_81 (l:List Sp) (h:l.length = 81):endF speechD l = .limit:=by
 unfold endF
 rw [if_neg (by rw [valid_speech];decide),if_pos (by omega)]
theorem valid_speech2:validF speechD2 = false:=by decide +kernel
theorem valid_kept:validF ⟨[],[0]⟩ = false:=by decide +kernel
theorem okRuls_T:okRuls rulesT = true:=by decide +kernel
theorem okRuls_0:okRuls [⟨[],[]⟩] = false:=by decide +kernel
theorem styles_ok:(match runF speechD rulesT 40 (visF (beginS speechD).its) 0 0 0 [] with
  | some (some o)=>decide (o.length = 2) && decide (o.map (·.a) = [3,1]) && decide (o.map (·.c) = [1,2]) && decide (o.map (·.put) = [[],[tMember]])
  | _=>false) = true:=by decide +kernel
theorem styles_T:∃ o,Styles speechD rulesT (some o)∧o.length = 2∧o.map (·.a) = [3,1]∧o.map (·.c) = [1,2]∧o.map (·.put) = [[],[tMember]]:=by
 have h:=styles_ok
 generalize hr:runF speechD rulesT 40 (visF (beginS speechD).its) 0 0 0 [] = e at h
 match e,h with
 | some (some o),h =>
  simp only [Bool.and_eq_true,decide_eq_true_eq] at h
  exact ⟨o,runF_run hr,h.1.1.1,h.1.1.2,h.1.2,h.2⟩
theorem undos_ok:(match endF speechD speechS with
  | .ok S=>decide (undosF S = [1,2,3])
  | _=>false) = true:=by decide +kernel
theorem undos_T {S:Sh} (h:endF speechD speechS = .ok S):undosF S = [1,2,3]:=by
 have h2:=undos_ok
 rw [h] at h2
 exact of_decide_eq_true h2
end Go.Proofs.Ytfppbjfbghaclaa

namespace Go.Proofs.Ytfppbjfbghaclaa
open Go.Pal Go.RowKit
set_option maxRecDepth 100000
theorem Sound.relAt {P:Program} {f:FuncId} {sh:List Value→List Value} {α:Type} {R:GRel α} {q:α→Value→Hp→Prop} (hs:Sound P f sh (grel R q)) (ok:GOk R) (hm:∀ x v G G',Grow G G'→q x v G→q x v G') (x:α):Sound P f sh (.rel (fun args G=>R args G x) fun _ v G=>q x v G):=by
 refine ⟨fun _ v G G' hg h=>hm x v G G' hg h,fun args G W hsub hx=>(hs.2 args G W hsub ⟨x,hx⟩).mono ?_⟩
 rintro e W' ⟨v,G',h1,⟨y,hy,hq⟩,h3,h4⟩
 have:=ok.uniq _ _ _ _ hy (ok.grow _ _ _ _ h3 hx)
 subst this
 exact ⟨v,G',h1,hq,h3,h4⟩
theorem Sound.relSca {P:Program} {f:FuncId} {sh:List Value→List Value} {pre:List Value→Hp→Prop} {q:List Value→Value→Hp→Prop} (hs:Sound P f sh (.rel pre q)):Sound P f sh (.sca pre fun args _ v=>∃ G',q args v G'):=fun args G W hsub hpre =>
 (hs.2 args G W hsub hpre).mono fun e W' ⟨v,G',h1,h2,_,_,_,hB⟩=>⟨v,h1,⟨G',h2⟩,hB⟩
def badE:End→Bool
 | .ok _=>false
 | _=>true
def badV:End→Value
 | .arg=>.tuple #[.slice none 0 0, .slice none 0 0,I 0,I 1]
 | .limit=>.tuple #[.slice none 0 0, .slice none 0 0,I 0,I 3]
 | .fail k=>.tuple #[.slice none 0 0, .slice none 0 0,I k,I 9]
 | .ok _=>undef
theorem playBad:Sound Try.prog 8 id (gsca (args2 drRd spsRd fun d s=>badE (endF d s) = true) fun x v=>v = badV (endF x.1 x.2)):=by
 refine Sound.scaG fun x=>?_
 have h:=Sound.relSca (Sound.relAt play26 (ok2 _ _ _) (fun x v G G' hg h=>h.grow hg) x)
 intro args G W hsub hx
 obtain ⟨u,v,h1,h2,h3,hb⟩:=hx
 refine (h args G W hsub ⟨u,v,h1,h2,h3,trivial⟩).mono ?_
 rintro e W' ⟨v,k1,⟨G',k2⟩,k3⟩
 refine ⟨v,k1, ?_,k3⟩
 unfold showR at k2
 generalize endF x.1 x.2 = en at k2 hb
 cases en<;>first | exact k2 | cases hb
theorem playH (d:Dr) (s:List Sp):Sound Try.prog 8 id (.hp (fun args p G=>badE (endF d s) = true∧∃ w v,args = [w,v]∧(∀ G1,Over p G G1→drRd.R G1 w d)∧spsRd.R G v s) fun _ p v p' _=>v = badV (endF d s)∧p' = p) :=
 Sound.hpImp (Sound.hpSca (Sound.scaAt playBad (ok2 _ _ _) (d,s))) (fun args p G _ ⟨hb,w,v,h1,h2,h3⟩ G1 _ ho=>⟨w,v,h1,h2 G1 ho,spsRd.grow ho.1 h3,hb⟩) (fun args p v p' G ⟨h1,_,_,_,h2⟩=>⟨h2,h1⟩) (fun args p v p' G G' hg h=>h)
theorem intsH (a b:List Int):Sound Try.prog 9 id (.hp (fun args p G=>∃ w v,args = [w,v]∧(∀ G1,Over p G G1→SlV intE G1 w a)∧SlV intE G v b) fun _ p v p' _=>v = .bool (decide (a = b))∧p' = p) :=
 Sound.hpImp (Sound.hpSca (Sound.scaAt ints23 (ok2 _ _ _) (a,b))) (fun args p G _ ⟨w,v,h1,h2,h3⟩ G1 _ ho=>⟨w,v,h1,h2 G1 ho,h3.grow ho.1,trivial⟩) (fun args p v p' G ⟨h1,_,_,_,h2⟩=>⟨h2,h1⟩) (fun args p v p' G G' hg h=>h)
theorem strsH (a b:List ByteArray):Sound Try.prog 10 id (.hp (fun args p G=>∃ w v,args = [w,v]∧(∀ G1,Over p G G1→SlV strE G1 w a)∧SlV strE G v b) fun _ p v p' _=>v = .bool (decide (a = b))∧p' = p) :=
 Sound.hpImp (Sound.hpSca (Sound.scaAt strings29 (ok2 _ _ _) (a,b))) (fun args p G _ ⟨w,v,h1,h2,h3⟩ G1 _ ho=>⟨w,v,h1,h2 G1 ho,h3.grow ho.1,trivial⟩) (fun args p v p' G ⟨h1,_,_,_,h2⟩=>⟨h2,h1⟩) (fun args p v p' G G' hg h=>h)
theorem map_at {α β:Type} {f:α→β} {l:List α} {l':List β} (h:l.map f = l') {i:Nat} (hi:i < l.length) {y:β} (hy:l'[i]? = some y):f l[i] = y:=by
 subst h
 simpa [hi] using hy
theorem checkH (d:Dr):Sound Try.prog 11 id (.hp (fun args p G=>∃ w,args = [w]∧∀ G1,Over p G G1→drRd.R G1 w d) fun _ p v p' _=>v = I (if validF d = true then 0 else 1)∧p' = p) :=
 Sound.hpImp (Sound.hpSca (Sound.scaAt check31 (ok1 _ _) d)) (fun args p G _ ⟨w,h1,h2⟩ G1 _ ho=>⟨w,h1,h2 G1 ho,trivial⟩) (fun args p v p' G ⟨h1,_,_,_,h2⟩=>⟨h2,h1⟩) (fun args p v p' G G' hg h=>h)
theorem awakeH:Sound Try.prog 12 id (.hp (fun args _ _=>args = []) fun _ p v p' _=>v = .bool true∧p' = p) :=
 Sound.hpImp (Sound.hpSca (Sound.scaAt awake15 okU ())) (fun args p G _ h G1 _ ho=>h) (fun args p v p' G ⟨h1,_,_,_,h2⟩=>⟨h2,h1⟩) (fun args p v p' G G' hg h=>h)
theorem sps_more {G:Hp} {a:Option Addr} {n c:Nat} {vs:List Value} {l more:List Sp} (hv:vs.length = l.length * 4) (hvs:∀ i (h:i < l.length),((vs.drop (i * 4)).take 4).length = 4∧SpC G ((vs.drop (i * 4)).take 4) l[i]) :
  ∀ {us:List Value},us.length = more.length * 4→(∀ i (h:i < more.length),SpC G ((us.drop (i * 4)).take 4) more[i])→n = l.length + more.length→n≤1000→PubRow G a n c (vs++us)→spsRd.R G (.slice a n c) (l++more):=by
 intro us hu hus hn hn9 hp
 refine ⟨_,_,_,rfl,SlR.ofPub hp (by simp [hn]) fun i hi=>?_,by unfold maxLen;omega⟩
 by_cases h:i < l.length
 ·rw [List.getElem_append_left h]
  have:((vs++us).drop (i * 4)).take 4 = (vs.drop (i * 4)).take 4:=by
   rw [List.drop_append_of_le_length (by omega),List.take_append_of_le_length (by rw [List.length_drop];omega)]
  rw [this];exact hvs i h
 ·have hi2:i - l.length < more.length:=by simp at hi;omega
  rw [List.getElem_append_right (by omega)]
  have:((vs++us).drop (i * 4)).take 4 = (us.drop ((i - l.length) * 4)).take 4:=by
   rw [List.drop_append,List.drop_of_length_le (by omega),List.nil_append,show i * 4 - vs.length = (i - l.length) * 4 by omega]
  rw [this]
  exact ⟨by rw [List.length_take,List.length_drop];omega,hus _ hi2⟩
theorem zero_steps {G:Hp} {a:Option Addr} {n m c:Nat} (hp:PubRow G a n c (List.replicate m [I 0,I 0,I 0, .slice none 0 0]).flatten) (hn:n = m) (hb:n≤1000:=by omega):spsRd.R G (.slice a n c) (List.replicate m ⟨0,0,0,[]⟩):=by
 subst hn
 let zE:El Unit:=⟨4,fun _=>[I 0,I 0,I 0, .slice none 0 0],fun _=>rfl,fun _=>rfl,fun _ v hv=>by simp at hv;rcases hv with rfl | rfl<;>rfl⟩
 refine ⟨_,_,_,rfl,SlR.ofPub hp (by simp) fun i hi=>?_,by unfold maxLen;omega⟩
 have e:(List.replicate n [I 0,I 0,I 0,Value.slice none 0 0]).flatten = flat zE (List.replicate n ())++[]:=by simp [flat,zE]
 have h:=flat_at zE (List.replicate n ()) [] (i:=i) (by simpa using hi)
 rw [e]
 have h2:((flat zE (List.replicate n ())++[]).drop (i * 4)).take 4 = [I 0,I 0,I 0, .slice none 0 0]:=h
 rw [h2]
 refine ⟨rfl, .slice none 0 0, ?_, ?_⟩
 ·simp
 ·have e2:(List.replicate n (⟨0,0,0,[]⟩:Sp))[i] = ⟨0,0,0,[]⟩:=by simp
  rw [e2];exact SlV.nil
set_option maxHeartbeats 4000000 in
theorem law3:Sound Try.prog 3 id (.hp (fun args p _=>args = []∧PlainH p) fun _ _ v _ _=>v = .bool true):=by
 refine compN3.hx (Tab.cons 8 _ playBad body26 (Tab.nil _)) (fun args p G h=>by rw [h.1];simp) (fun args p v p' G G' hg h=>h) (fun args p0 G0 h=>?_)
 obtain ⟨rfl,hpl0⟩:=h
 (conv=>whnf)
 refine CallH.mk _ speech4 bodyN4 (W.mk ?_)
 (conv=>whnf)
 refine HpcP.mk ⟨rfl,hpl0⟩ (fun v p G hg0 hq=>W.mk ?_)
 obtain ⟨hpl,wv,kv,sa,rfl,hw,hk,hs⟩:=hq
 obtain ⟨sb,so,rfl⟩:∃ b o,sa = some ⟨b,o,none⟩:=⟨_,_,hs.some (by omega)⟩
 obtain ⟨S,hE,_,_,htr1,htr2,htr3,_⟩:=speech_end1
 have hD:∀ G1 G',Grow G G'→Over p G' G1→drRd.R G1 (.agg #[wv,kv]) speechD:=fun G1 G' hg ho=>⟨wv,kv,rfl,hw.slV ho.2.1 (by decide),hk.grow (hg.trans ho.1)⟩
 have hS:∀ G',Grow G G'→spsRd.R G' (.slice (some ⟨sb,so,none⟩) 3 3) speechS:=fun G' hg=>⟨_,_,_,rfl,SlR.grow (G:=G) (G':=G') (fun cs x h=>SpC.grow cs x hg h) hs hg,by unfold maxLen;omega⟩
 obtain ⟨za,zc,rfl⟩:=hw.sl
 rcases id hw with ⟨_,h0⟩ | ⟨wb,wc,wrest,e,hwb,hwr,hwc,hwm⟩
 ·exact absurd (congrArg List.length h0) (by decide)
 cases e
 obtain ⟨ka,kn,kc,rfl,_,_⟩:=id hk
 (conv=>whnf)
 repeat' (refine ob ?_ ?_;(first | trivial | omega | (simp only [inR];omega) | exact ble (by rfl) | exact SlR.some ‹_› (by omega));(conv=>whnf))
 refine CallH.mk _ (Sound.hpRelX (Sound.relAt undoable34 (ok2 _ _ _) (fun x v G G' hg h=>h.grow hg) (speechD,speechS))) body34 (W.mk ?_)
 (conv=>whnf)
 refine HpcP.mk (fun G1 _ ho=>⟨_,_,rfl,hD G1 _ (Grow.refl _) ho,hS G1 ho.1,trivial⟩) (fun v p2 G2 hg2 hq=>W.mk ?_)
 obtain ⟨rfl,hu⟩:=hq
 obtain ⟨ua,un,uc,rfl,hu1⟩:∃ a n c,v = .tuple #[.slice a n c,I 0]∧OverX p2 G2 fun G1=>SlV intE G1 (.slice a n c) [1,2,3]:=by
  obtain ⟨Ga,Gb,o1,o2,o3⟩:=hu
  unfold undoR at o3
  dsimp only at o3
  rw [hE] at o3
  obtain ⟨u,rfl,o4⟩:=o3
  rw [undos_T hE] at o4
  obtain ⟨a,n,c,rfl,_,_⟩:=id o4
  exact ⟨a,n,c,rfl,Ga,Gb,o1,o2,o4⟩
 (conv=>whnf)
 refine CallH.mk _ (Sound.hpRelX (Sound.relAt traces16 (ok2 _ _ _) (fun x v G G' hg h=>h.grow hg) (speechD,speechS))) body16 (W.mk ?_)
 (conv=>whnf)
 refine HpcP.mk (fun G1 _ ho=>⟨_,_,rfl,hD G1 _ hg2 ho,(spsRd.grow ho.1 (hS _ hg2)),trivial⟩) (fun v p3 G3 hg3 hq=>W.mk ?_)
 obtain ⟨rfl,ht⟩:=hq
 have htl:(tracesF speechD S).length = 5:=by simpa using congrArg List.length htr1
 obtain ⟨ta,tc,ba,bn,bc,rfl,htsome,xa,xc,xb,ht1⟩:∃ a c a' n' c',v = .tuple #[.slice a 5 c, .slice a' n' c',I 0]∧a = some ⟨ab a,ao a,none⟩∧∃ xa xc xb,OverX p3 G3 fun G1=>CellsAt G1 (ab a) (ao a + 3 * 4) [.slice xa 0 xc,I (-1),I (-1),xb]:=by
  obtain ⟨Ga,Gb,o1,o2,o3⟩:=ht
  unfold tracesR at o3
  dsimp only at o3
  rw [hE] at o3
  obtain ⟨u,b,rfl,⟨a,n,c,rfl,o4,_⟩,a',n',c',rfl,_,_⟩:=o3
  have hn:n = 5:=by rw [← htl];exact o4.len.symm
  subst hn
  obtain ⟨cs,_,c2,x,y,rfl,⟨xa,xn,xc,rfl,c5,_⟩,_⟩:=o4.at_ 3 (by omega)
  have e1:=map_at htr1 (i:=3) (by omega) (y:=[]) rfl
  have e2:=map_at htr2 (i:=3) (by omega) (y:=-1) rfl
  have e3:=map_at htr3 (i:=3) (by omega) (y:=-1) rfl
  have hxn:xn = 0:=by rw [← c5.len,e1];rfl
  subst hxn
  rw [e2,e3] at c2
  exact ⟨a,c,a',n',c',rfl,o4.some (by omega),xa,xc,y,Ga,Gb,o1,o2,c2⟩
 have hG3:=hg2.trans hg3
 (conv=>whnf)
 refine RelP.mk trivial (fun v G4 hg4 hq=>W.mk ?_)
 obtain ⟨ra,rfl,hr4⟩:=hq
 (conv=>whnf)
 refine RelP.mk trivial (fun v G5 hg5 hq=>W.mk ?_)
 obtain ⟨rb',rfl,hr5⟩:=hq
 (conv=>whnf)
 refine RelP.mk trivial (fun v G6 hg6 hq=>W.mk ?_)
 obtain ⟨rc',rfl,hr6⟩:=hq
 (conv=>whnf)
 refine RelP.mk trivial (fun v G7 hg7 hq=>W.mk ?_)
 obtain ⟨rd',rfl,hr7⟩:=hq
 (conv=>whnf)
 have hG7:=hG3.trans (hg4.trans (hg5.trans (hg6.trans hg7)))
 have hrul:rusRd.R G7 (.slice rd' 2 2) rulesT:=by
  refine ⟨_,_,_,rfl,SlR.ofPub hr7 rfl fun i hi=>?_,by omega⟩
  match i,hi with
  | 0,_=>exact ⟨rfl,_,_,rfl,SlV.grow (hg5.trans (hg6.trans hg7)) (hr4.slV rfl rfl (by omega)),SlV.nil⟩
  | 1,_=>exact ⟨rfl,_,_,rfl,SlV.grow (hg6.trans hg7) (hr5.slV rfl rfl (by omega)),SlV.grow hg7 (hr6.slV rfl rfl (by omega))⟩
  | n + 2,h=>exact absurd h (by show ¬ n + 2 < 2;omega)
 refine CallH.mk _ (Sound.hpRelX (Sound.relAt style37r (ok2 _ _ _) (fun x v G G' hg h=>h.grow hg) (speechD,rulesT))) body37 (W.mk ?_)
 (conv=>whnf)
 refine HpcP.mk (fun G1 _ ho=>⟨_,_,rfl,hD G1 _ hG7 ho,rusRd.grow ho.1 hrul,trivial⟩) (fun v p4 G8 hg8 hq=>W.mk ?_)
 obtain ⟨rfl,hst⟩:=hq
 obtain ⟨o,hot,ol,oa,oc,op⟩:=styles_T
 obtain ⟨ya,yc,rfl,hysome,u0,q0,u1,qa1,qn1,qc1,hy0,hy1,hy2⟩:∃ a c,v = .tuple #[.slice a 2 c,I 0]∧a = some ⟨ab a,ao a,none⟩∧∃ u0 q0 u1 qa qn qc,(OverX p4 G8 fun G1=>CellsAt G1 (ab a) (ao a + 0 * 4) [I u0,I 3,I 1,q0])∧(OverX p4 G8 fun G1=>CellsAt G1 (ab a) (ao a + 1 * 4) [I u1,I 1,I 2, .slice qa qn qc])∧OverX p4 G8 fun G1=>SlV strE G1 (.slice qa qn qc) [tMember]:=by
  obtain ⟨Ga,Gb,o1,o2,o3⟩:=hst
  rcases o3 with ⟨h,_⟩ | ⟨_,_,⟨h,_⟩ | ⟨o',a,n,c,h,rfl,_,_,_,e,h2,_⟩⟩
  ·rw [valid_speech,okRuls_T] at h;rcases h with h | h<;>cases h
  ·cases hot.uniq h
  ·cases hot.uniq h
   cases e
   have hn:n = 2:=by rw [← ol];exact h2.len.symm
   subst hn
   obtain ⟨cs,_,c2,x,rfl,_⟩:=h2.at_ 0 (by omega)
   obtain ⟨ds,_,d2,y,rfl,d3⟩:=h2.at_ 1 (by omega)
   rw [map_at oa (i:=0) (by omega) (y:=3) rfl,map_at oc (i:=0) (by omega) (y:=1) rfl] at c2
   rw [map_at oa (i:=1) (by omega) (y:=1) rfl,map_at oc (i:=1) (by omega) (y:=2) rfl] at d2
   rw [map_at op (i:=1) (by omega) (y:=[tMember]) rfl] at d3
   obtain ⟨pa,pn,pc,rfl,_,_⟩:=id d3
   exact ⟨_,_,rfl,h2.some (by omega),_,_,_,pa,pn,pc,⟨Ga,Gb,o1,o2,c2⟩,⟨Ga,Gb,o1,o2,d2⟩,Ga,Gb,o1,o2,d3⟩
 have hG8:=hG7.trans hg8
 (conv=>whnf)
 refine RelP.mk trivial (fun v G9 hg9 hq=>W.mk ?_)
 obtain ⟨qa,rfl,hq9⟩:=hq
 (conv=>whnf)
 have hsp9:spsRd.R G9 (.slice qa 1 1) [⟨0,5,1,[]⟩]:=by
  refine ⟨_,_,_,rfl,SlR.ofPub hq9 rfl fun i hi=>?_,by unfold maxLen;omega⟩
  match i,hi with
  | 0,_=>exact ⟨rfl,_,rfl,SlV.nil⟩
  | n + 1,h=>exact absurd h (by show ¬ n + 1 < 1;omega)
 have hG9:=hG8.trans hg9
 refine CallH.mk _ (playH speechD [⟨0,5,1,[]⟩]) body26 (W.mk ?_)
 (conv=>whnf)
 refine HpcP.mk ⟨by rw [end_5];rfl,_,_,rfl,fun G1 ho=>hD G1 _ hG9 ho,hsp9⟩ (fun v p5 G10 hg10 hq=>W.mk ?_)
 obtain ⟨rfl,rfl⟩:=hq
 rw [end_5]
 have hG10:=hG9.trans hg10
 (conv=>whnf)
 repeat' (refine IteP.mk (fun _=>W.mk ?_) (fun _=>W.mk ?_)<;>first | (exfalso;omega) | (conv=>whnf))
 refine RelP.mk trivial (fun v G11 hg11 hq=>W.mk ?_)
 obtain ⟨qb,rfl,hq11⟩:=hq
 have hG11:=hG10.trans hg11
 (conv=>whnf)
 refine CallH.mk _ (intsH [1,2,3] [1,2,3]) body23 (W.mk ?_)
 (conv=>whnf)
 refine HpcP.mk ⟨_,_,rfl,fun G1 ho=>hu1.at (fun _ _ hg h=>SlV.grow hg h) (fun _ _ h=>h) (hg3.trans (hg4.trans (hg5.trans (hg6.trans (hg7.trans (hg8.trans (hg9.trans (hg10.trans hg11)))))))) ho,hq11.slV rfl rfl (by omega)⟩ (fun v p6 G12 hg12 hq=>W.mk ?_)
 obtain ⟨rfl,rfl⟩:=hq
 rw [show decide (([1,2,3]:List Int) = [1,2,3]) = true from rfl]
 have hG12:=hG11.trans hg12
 (conv=>whnf)
 refine ForkP.mk (fun _=>W.mk ?_) (fun h=>by cases h)
 (conv=>whnf)
 repeat' (refine IteP.mk (fun _=>W.mk ?_) (fun _=>W.mk ?_)<;>first | (exfalso;omega) | (conv=>whnf))
 have k3:=hg4.trans (hg5.trans (hg6.trans (hg7.trans (hg8.trans (hg9.trans (hg10.trans (hg11.trans hg12)))))))
 have k8:=hg9.trans (hg10.trans (hg11.trans hg12))
 have hpl6:PlainH p6:=hpl
 have rt0:=OverX.imp (ht1.grow k3) (fun G1 h=>CellsAt.drop (d:=0) (n:=1) h)
 have rt1:=OverX.imp (ht1.grow k3) (fun G1 h=>CellsAt.drop (d:=1) (n:=1) h)
 have rt2:=OverX.imp (ht1.grow k3) (fun G1 h=>CellsAt.drop (d:=2) (n:=1) h)
 repeat' (refine ob ?_ ?_;(first | trivial | omega | (simp only [inR];omega) | exact ble (by rfl) | exact SlR.some ‹_› (by omega));(conv=>whnf))
 have ry1:=OverX.imp (hy0.grow k8) (fun G1 h=>CellsAt.drop (d:=1) (n:=1) h)
 have ry2:=OverX.imp (hy0.grow k8) (fun G1 h=>CellsAt.drop (d:=2) (n:=1) h)
 have rz1:=OverX.imp (hy1.grow k8) (fun G1 h=>CellsAt.drop (d:=1) (n:=1) h)
 have rz2:=OverX.imp (hy1.grow k8) (fun G1 h=>CellsAt.drop (d:=2) (n:=1) h)
 have rz3:=OverX.imp (hy1.grow k8) (fun G1 h=>CellsAt.drop (d:=3) (n:=1) h)
 refine OverX.rd hpl6 rt0 (by omega) rfl (W.mk ?_)
 (conv=>whnf)
 repeat' (refine IteP.mk (fun _=>W.mk ?_) (fun _=>W.mk ?_)<;>first | (exfalso;omega) | (conv=>whnf))
 repeat' (refine ob ?_ ?_;(first | trivial | omega | (simp only [inR];omega) | exact ble (by rfl) | exact SlR.some ‹_› (by omega));(conv=>whnf))
 refine OverX.rd hpl6 rt1 (by omega) rfl (W.mk ?_)
 (conv=>whnf)
 repeat' (refine IteP.mk (fun _=>W.mk ?_) (fun _=>W.mk ?_)<;>first | (exfalso;omega) | (conv=>whnf))
 repeat' (refine ob ?_ ?_;(first | trivial | omega | (simp only [inR];omega) | exact ble (by rfl) | exact SlR.some ‹_› (by omega));(conv=>whnf))
 refine OverX.rd hpl6 rt2 (by omega) rfl (W.mk ?_)
 (conv=>whnf)
 repeat' (refine IteP.mk (fun _=>W.mk ?_) (fun _=>W.mk ?_)<;>first | (exfalso;omega) | (conv=>whnf))
 repeat' (refine ob ?_ ?_;(first | trivial | omega | (simp only [inR];omega) | exact ble (by rfl) | exact SlR.some ‹_› (by omega));(conv=>whnf))
 refine OverX.rd hpl6 ry1 (by omega) rfl (W.mk ?_)
 (conv=>whnf)
 repeat' (refine IteP.mk (fun _=>W.mk ?_) (fun _=>W.mk ?_)<;>first | (exfalso;omega) | (conv=>whnf))
 repeat' (refine ob ?_ ?_;(first | trivial | omega | (simp only [inR];omega) | exact ble (by rfl) | exact SlR.some ‹_› (by omega));(conv=>whnf))
 refine OverX.rd hpl6 ry2 (by omega) rfl (W.mk ?_)
 (conv=>whnf)
 repeat' (refine IteP.mk (fun _=>W.mk ?_) (fun _=>W.mk ?_)<;>first | (exfalso;omega) | (conv=>whnf))
 repeat' (refine ob ?_ ?_;(first | trivial | omega | (simp only [inR];omega) | exact ble (by rfl) | exact SlR.some ‹_› (by omega));(conv=>whnf))
 refine OverX.rd hpl6 rz1 (by omega) rfl (W.mk ?_)
 (conv=>whnf)
 repeat' (refine IteP.mk (fun _=>W.mk ?_) (fun _=>W.mk ?_)<;>first | (exfalso;omega) | (conv=>whnf))
 repeat' (refine ob ?_ ?_;(first | trivial | omega | (simp only [inR];omega) | exact ble (by rfl) | exact SlR.some ‹_› (by omega));(conv=>whnf))
 refine OverX.rd hpl6 rz2 (by omega) rfl (W.mk ?_)
 (conv=>whnf)
 repeat' (refine IteP.mk (fun _=>W.mk ?_) (fun _=>W.mk ?_)<;>first | (exfalso;omega) | (conv=>whnf))
 repeat' (refine ob ?_ ?_;(first | trivial | omega | (simp only [inR];omega) | exact ble (by rfl) | exact SlR.some ‹_› (by omega));(conv=>whnf))
 refine OverX.rd hpl6 rz3 (by omega) rfl (W.mk ?_)
 (conv=>whnf)
 repeat' (refine IteP.mk (fun _=>W.mk ?_) (fun _=>W.mk ?_)<;>first | (exfalso;omega) | (conv=>whnf))
 repeat' (refine ob ?_ ?_;(first | trivial | omega | (simp only [inR];omega) | exact ble (by rfl) | exact SlR.some ‹_› (by omega));(conv=>whnf))
 refine RelP.mk trivial (fun v G13 hg13 hq=>W.mk ?_)
 obtain ⟨qm,rfl,hq13⟩:=hq
 (conv=>whnf)
 refine CallH.mk _ (strsH [tMember] [tMember]) body29 (W.mk ?_)
 (conv=>whnf)
 refine HpcP.mk ⟨_,_,rfl,fun G1 ho=>hy2.at (fun _ _ hg h=>SlV.grow hg h) (fun _ _ h=>h) (k8.trans hg13) ho,hq13.slV rfl rfl (by omega)⟩ (fun v p7 G14 hg14 hq=>W.mk ?_)
 obtain ⟨rfl,rfl⟩:=hq
 rw [show decide ([tMember] = [tMember]) = true from decide_eq_true rfl]
 have hG14:=hG12.trans (hg13.trans hg14)
 (conv=>whnf)
 refine ForkP.mk (fun _=>W.mk ?_) (fun h=>by cases h)
 (conv=>whnf)
 repeat' (refine IteP.mk (fun _=>W.mk ?_) (fun _=>W.mk ?_)<;>first | (exfalso;omega) | (conv=>whnf))
 refine DrawP.mk monoT_nil rfl (W.mk ?_)
 (conv=>whnf)
 refine RelP.mk trivial (fun v G15 hg15 hq=>W.mk ?_)
 obtain ⟨qn',qnc,rfl,hq15⟩:=hq
 have hG15:=hG14.trans hg15
 (conv=>whnf)
 have hsX:=SlR.grow (G:=G) (G':=G15) (fun cs x h=>SpC.grow cs x hG15 h) hs hG15
 obtain ⟨vs,v1,v2,v3,v4⟩:=raw_cells (R:=SpC G15) (fun cs x h=>h.one) hsX.at_
 clear hsX
 repeat' (refine ob ?_ ?_;(first | trivial | omega | (simp only [inR];omega) | exact ble (by rfl) | exact SlR.some ‹_› (by omega));(conv=>whnf))
 refine RdP.at v2 v1 (W.mk ?_)
 (conv=>whnf)
 refine OblP.mk v3 (W.mk ?_)
 (conv=>whnf)
 repeat' (refine ob ?_ ?_;(first | trivial | omega | (simp only [inR];omega) | exact ble (by rfl) | exact SlR.some ‹_› (by omega));(conv=>whnf))
 refine PubP.mk (fun pa pc G16 hg16 hp16=>W.mk ?_)
 (conv=>whnf)
 have hsp16:=sps_more (l:=speechS) (more:=moreS3) v1 (fun i hi=>⟨(v4 i hi).1,SpC.grow _ _ hg16 (v4 i hi).2⟩) (by rfl) (fun i hi=>(match i,hi with
  | 0,_=>⟨_,rfl,SlV.grow hg16 (hq15.slV rfl rfl (by omega))⟩
  | 1,_=>⟨_,rfl,SlV.nil⟩
  | n + 2,h=>absurd h (by show ¬ n + 2 < 2;omega))) rfl (by decide) hp16
 have hG16:=hG15.trans hg16
 refine FnvP.mk ⟨_,SoundFn.of body26 (Sound.bare (playH speechD (speechS++moreS3))),W.mk ?_⟩
 (conv=>whnf)
 refine HpcP.mk ⟨by rw [end_3];rfl,_,_,rfl,fun G1 ho=>hD G1 _ hG16 ho,hsp16⟩ (fun v p9 G17 hg17 hq=>W.mk ?_)
 obtain ⟨rfl,rfl⟩:=hq
 rw [end_3]
 clear hsp16 v1 v2 v3 v4
 have hG17:=hG16.trans hg17
 (conv=>whnf)
 refine DrawP.mk monoT_nil rfl (W.mk ?_)
 (conv=>whnf)
 have hsX:=SlR.grow (G:=G) (G':=G17) (fun cs x h=>SpC.grow cs x hG17 h) hs hG17
 obtain ⟨vs,v1,v2,v3,v4⟩:=raw_cells (R:=SpC G17) (fun cs x h=>h.one) hsX.at_
 clear hsX
 repeat' (refine ob ?_ ?_;(first | trivial | omega | (simp only [inR];omega) | exact ble (by rfl) | exact SlR.some ‹_› (by omega));(conv=>whnf))
 refine RdP.at v2 v1 (W.mk ?_)
 (conv=>whnf)
 refine OblP.mk v3 (W.mk ?_)
 (conv=>whnf)
 repeat' (refine ob ?_ ?_;(first | trivial | omega | (simp only [inR];omega) | exact ble (by rfl) | exact SlR.some ‹_› (by omega));(conv=>whnf))
 refine PubP.mk (fun pa pc G18 hg18 hp18=>W.mk ?_)
 (conv=>whnf)
 have hsp18:=sps_more (l:=speechS) (more:=moreZ) v1 (fun i hi=>⟨(v4 i hi).1,SpC.grow _ _ hg18 (v4 i hi).2⟩) (by rfl) (fun i hi=>(match i,hi with
  | 0,_=>⟨_,rfl,SlV.nil⟩
  | n + 1,h=>absurd h (by show ¬ n + 1 < 1;omega))) rfl (by decide) hp18
 have hG18:=hG17.trans hg18
 refine FnvP.mk ⟨_,SoundFn.of body26 (Sound.bare (playH speechD (speechS++moreZ))),W.mk ?_⟩
 (conv=>whnf)
 refine HpcP.mk ⟨by rw [end_z];rfl,_,_,rfl,fun G1 ho=>hD G1 _ hG18 ho,hsp18⟩ (fun v p9 G19 hg19 hq=>W.mk ?_)
 obtain ⟨rfl,rfl⟩:=hq
 rw [end_z]
 clear hsp18 v1 v2 v3 v4
 have hG19:=hG18.trans hg19
 (conv=>whnf)
 refine DrawP.mk monoT_nil rfl (W.mk ?_)
 (conv=>whnf)
 have hsX:=SlR.grow (G:=G) (G':=G19) (fun cs x h=>SpC.grow cs x hG19 h) hs hG19
 obtain ⟨vs,v1,v2,v3,v4⟩:=raw_cells (R:=SpC G19) (fun cs x h=>h.one) hsX.at_
 clear hsX
 repeat' (refine ob ?_ ?_;(first | trivial | omega | (simp only [inR];omega) | exact ble (by rfl) | exact SlR.some ‹_› (by omega));(conv=>whnf))
 refine RdP.at v2 v1 (W.mk ?_)
 (conv=>whnf)
 refine OblP.mk v3 (W.mk ?_)
 (conv=>whnf)
 repeat' (refine ob ?_ ?_;(first | trivial | omega | (simp only [inR];omega) | exact ble (by rfl) | exact SlR.some ‹_› (by omega));(conv=>whnf))
 refine PubP.mk (fun pa pc G20 hg20 hp20=>W.mk ?_)
 (conv=>whnf)
 have hsp20:=sps_more (l:=speechS) (more:=more4) v1 (fun i hi=>⟨(v4 i hi).1,SpC.grow _ _ hg20 (v4 i hi).2⟩) (by rfl) (fun i hi=>(match i,hi with
  | 0,_=>⟨_,rfl,SlV.nil⟩
  | n + 1,h=>absurd h (by show ¬ n + 1 < 1;omega))) rfl (by decide) hp20
 have hG20:=hG19.trans hg20
 refine FnvP.mk ⟨_,SoundFn.of body26 (Sound.bare (playH speechD (speechS++more4))),W.mk ?_⟩
 (conv=>whnf)
 refine HpcP.mk ⟨by rw [end_4];rfl,_,_,rfl,fun G1 ho=>hD G1 _ hG20 ho,hsp20⟩ (fun v p9 G21 hg21 hq=>W.mk ?_)
 obtain ⟨rfl,rfl⟩:=hq
 rw [end_4]
 clear hsp20 v1 v2 v3 v4
 have hG21:=hG20.trans hg21
 (conv=>whnf)
 refine OblP.mk ⟨by omega,by decide⟩ (W.mk ?_)
 (conv=>whnf)
 refine RelP.mk trivial (fun v G22 hg22 hq=>W.mk ?_)
 obtain ⟨zza,zzc,rfl,hq22⟩:=hq
 have hG22:=hG21.trans hg22
 have hzs:spsRd.R G22 (.slice zza 81 zzc) (List.replicate 81 ⟨0,0,0,[]⟩):=zero_steps hq22 rfl (by decide)
 have hx22:∀ G1,Over p9 G22 G1→args2 drRd spsRd (fun d s=>badE (endF d s) = true) [.agg #[.slice (some ⟨wb,0,none⟩) speechD.ws.length zc, .slice ka kn kc], .slice zza 81 zzc] G1 (speechD,List.replicate 81 ⟨0,0,0,[]⟩):=fun G1 ho=>⟨_,_,rfl,hD G1 _ hG22 ho,spsRd.grow ho.1 hzs,by show badE (endF speechD _) = true;rw [end_81 _ (by simp)];rfl⟩
 (conv=>whnf)
 refine ScaP.mk (fun G1 ho=>⟨_,hx22 G1 ho⟩) (fun v hv=>W.mk ?_)
 obtain ⟨G1,ho,x,hx,hv⟩:=hv
 have:=(ok2 drRd spsRd fun d s=>badE (endF d s) = true).uniq _ _ _ _ hx (hx22 G1 ho)
 subst this
 dsimp only at hv
 rw [end_81 _ (by simp)] at hv
 subst hv
 clear hx hx22 ho
 (conv=>whnf)
 repeat' (refine ob ?_ ?_;(first | trivial | omega | (simp only [inR];omega) | exact ble (by rfl) | exact SlR.some ‹_› (by omega));(conv=>whnf))
 refine RelP.mk trivial (fun v G23 hg23 hq=>W.mk ?_)
 obtain ⟨qr,rfl,hq23⟩:=hq
 have hG23:=hG22.trans hg23
 have hrul0:rusRd.R G23 (.slice qr 1 1) [⟨[],[]⟩]:=by
  refine ⟨_,_,_,rfl,SlR.ofPub hq23 rfl fun i hi=>?_,by omega⟩
  match i,hi with
  | 0,_=>exact ⟨rfl,_,_,rfl,SlV.nil,SlV.nil⟩
  | n + 1,h=>exact absurd h (by show ¬ n + 1 < 1;omega)
 (conv=>whnf)
 refine CallH.mk _ (Sound.hpRelX (Sound.relAt style37r (ok2 _ _ _) (fun x v G G' hg h=>h.grow hg) (speechD,[⟨[],[]⟩]))) body37 (W.mk ?_)
 (conv=>whnf)
 refine HpcP.mk (fun G1 _ ho=>⟨_,_,rfl,hD G1 _ hG23 ho,rusRd.grow ho.1 hrul0,trivial⟩) (fun v p10 G24 hg24 hq=>W.mk ?_)
 obtain ⟨rfl,hst0⟩:=hq
 obtain rfl:v = .tuple #[.slice none 0 0,I 1]:=by
  obtain ⟨Ga,Gb,o1,o2,o3⟩:=hst0
  rcases o3 with ⟨_,h⟩ | ⟨_,h,_⟩
  ·exact h
  ·rw [okRuls_0] at h;cases h
 have hG24:=hG23.trans hg24
 (conv=>whnf)
 repeat' (refine ob ?_ ?_;(first | trivial | omega | (simp only [inR];omega) | exact ble (by rfl) | exact SlR.some ‹_› (by omega));(conv=>whnf))
 have hset:=flat_set woE speechD.ws wrest [I 2] (i:=0) (d:=1) (n:=1) (x:=⟨ByteArray.mk (Array.mk [116,104,101]),2,7⟩) (by decide) (by decide) rfl
 have hw2:RowH woE 51 (upd p10 wb (some (.cells ((flat woE speechD.ws++wrest).take (0 * woE.k + 1)++[I 2]++(flat woE speechD.ws++wrest).drop (0 * woE.k + 1 + 1)).toArray 51 (0,0)))) (.slice (some ⟨wb,0,none⟩) speechD.ws.length zc) speechD2.ws:=.inr ⟨wb,zc,wrest,rfl,by rw [upd_same,hset];rfl,hwr,hwc,hwm⟩
 refine HpkP.mk ⟨_,51,hwb,W.mk ?_⟩
 (conv=>whnf)
 have hflen:(flat woE speechD.ws++wrest).length = speechD.ws.length * 3 + wrest.length:=by rw [List.length_append,flat_len];rfl
 refine OblP.mk (by rw [hflen];have:speechD.ws.length = 6:=rfl;show 0 + 0 * 3 + 1 + 1≤_;omega) (W.mk ?_)
 (conv=>whnf)
 refine CallH.mk _ (Sound.hpRelX (Sound.relAt undoable34 (ok2 _ _ _) (fun x v G G' hg h=>h.grow hg) (speechD2,speechS))) body34 (W.mk ?_)
 (conv=>whnf)
 refine HpcP.mk (fun G1 _ ho=>⟨_,_,rfl,⟨_,_,rfl,hw2.slV ho.2.1 (by decide),hk.grow (hG24.trans ho.1)⟩,spsRd.grow ho.1 (hS _ hG24),trivial⟩) (fun v p11 G25 hg25 hq=>W.mk ?_)
 obtain ⟨rfl,hu2⟩:=hq
 obtain rfl:v = .tuple #[.slice none 0 0,I 1]:=by
  obtain ⟨Ga,Gb,o1,o2,o3⟩:=hu2
  unfold undoR at o3
  dsimp only at o3
  rw [show endF speechD2 speechS = .arg from by unfold endF;rw [if_pos valid_speech2]] at o3
  exact o3
 have hG25:=hG24.trans hg25
 (conv=>whnf)
 repeat' (refine IteP.mk (fun _=>W.mk ?_) (fun _=>W.mk ?_)<;>first | (exfalso;omega) | (conv=>whnf))
 refine CallH.mk _ (checkH speechD2) body31 (W.mk ?_)
 (conv=>whnf)
 refine HpcP.mk ⟨_,rfl,fun G1 ho=>⟨_,_,rfl,hw2.slV ho.2.1 (by decide),hk.grow (hG25.trans ho.1)⟩⟩ (fun v p12 G26 hg26 hq=>W.mk ?_)
 obtain ⟨rfl,rfl⟩:=hq
 rw [valid_speech2,if_neg (by decide)]
 (conv=>whnf)
 repeat' (refine IteP.mk (fun _=>W.mk ?_) (fun _=>W.mk ?_)<;>first | (exfalso;omega) | (conv=>whnf))
 refine RelP.mk trivial (fun v G27 hg27 hq=>W.mk ?_)
 obtain ⟨qk,rfl,hq27⟩:=hq
 (conv=>whnf)
 refine CallH.mk _ (checkH ⟨[],[0]⟩) body31 (W.mk ?_)
 (conv=>whnf)
 refine HpcP.mk ⟨_,rfl,fun G1 ho=>⟨_,_,rfl,SlV.nil,SlV.grow ho.1 (hq27.slV rfl rfl (by omega))⟩⟩ (fun v p13 G28 hg28 hq=>W.mk ?_)
 obtain ⟨rfl,rfl⟩:=hq
 rw [valid_kept,if_neg (by decide)]
 (conv=>whnf)
 repeat' (refine IteP.mk (fun _=>W.mk ?_) (fun _=>W.mk ?_)<;>first | (exfalso;omega) | (conv=>whnf))
 refine CallH.mk _ awakeH body15 (W.mk ?_)
 (conv=>whnf)
 refine HpcP.mk rfl (fun v p14 G29 hg29 hq=>W.mk ?_)
 obtain ⟨rfl,rfl⟩:=hq
 (conv=>whnf)
 refine ForkP.mk (fun _=>W.mk ?_) (fun h=>by cases h)
 (conv=>whnf)
 refine NmP.mk ⟨[],W.mk ?_⟩
 (conv=>whnf)
 exact FinHp.of rfl rfl
theorem law3s:Sound Try.prog 3 id (gsca (fun args _ (_:Unit)=>args = []) fun _ v=>v = .bool true):=by
 refine Sound.scaG fun x=>?_
 intro args G W hsub hx
 refine (Sound.hpSca0 law3 args G W hsub ⟨hx,fun b o e=>by cases e⟩).mono ?_
 rintro e W' ⟨v,h1,⟨_,_,h2⟩,h3⟩
 exact ⟨v,h1,h2,h3⟩
end Go.Proofs.Ytfppbjfbghaclaa
