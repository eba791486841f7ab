/- TopLevel: the plain law: the volume's lines are the sentences'. TopLevel: the statement. -/
import Derived.Test.YtefnikpoimaiiaaME
import Derived.Test.YtefnikpoimaiiaaMD
set_option linter.unusedSimpArgs false
set_option linter.unusedVariables false
namespace Go.Proofs.Ytefnikpoimaiiaa
open Go Go.Pal Go.RowKit
set_option maxRecDepth 100000
def ten:ByteArray:=ByteArray.mk #[116,101,110,32,98,121,116,101,115,46]
def tens:Nat→ByteArray
 | 0=>ByteArray.mk #[]
 | n + 1=>tens n++ten
theorem tens_size:∀ n,(tens n).size = 10 * n
 | 0=>rfl
 | n + 1=>by rw [tens,ByteArray.size_append,tens_size n,show ten.size = 10 from rfl];omega
theorem tens_bytes:∀ n, ∀ c∈bytesL (tens n),32≤c∧c≤126
 | 0,c,h=>by simp [tens,bytesL] at h
 | n + 1,c,h=>by
  rw [tens,bytesL,ByteArray.data_append,Array.toList_append,List.map_append,List.mem_append] at h
  rcases h with h | h
  ·exact tens_bytes n c h
  ·simp only [ten,List.map_cons,List.map_nil,List.mem_cons,List.not_mem_nil,or_false] at h
   revert h
   rintro (rfl | rfl | rfl | rfl | rfl | rfl | rfl | rfl | rfl | rfl)<;>decide
theorem lnN_tens (n:Nat):lnN (tens n) = n:=by rw [lnN,tens_size];omega
theorem pur_catS (a b:ByteArray) (h:a.size + b.size≤9223372036854775807):∀ w,((POp.bin .add 9).sem [.string a, .string b]).run Try.prog w = .ok (.string (a++b)) w:=fun w=>by
 have e1:(POp.bin .add 9).sem [.string a, .string b] = (do eqGuard .add 9 (.tmp 0) (.tmp 0) (.string a) (.string b);binOp .add 9 (.string a) (.string b)):=rfl
 rw [e1]
 simp only [Sem.run_bind,binOp_string_add]
 have h0:(eqGuard .add 9 (.tmp 0) (.tmp 0) (.string a) (.string b)).run Try.prog w = .ok () w:=by simp [eqGuard]
 rw [h0]
 exact run_string_add_sum (P:=Try.prog) w a b h
def parF (ws:List Sn):List (Int × ByteArray):=ws.zipIdx.map fun x=>((x.2:Int) + 1,tens x.1.size.toNat)
theorem par_len (ws:List Sn):(parF ws).length = ws.length:=by simp [parF]
theorem par_snoc (ws:List Sn) (w:Sn):parF (ws++[w]) = parF ws++[((ws.length:Int) + 1,tens w.size.toNat)]:=by simp [parF,List.zipIdx_append]
theorem par_get (ws:List Sn) {i:Nat} (h:i < ws.length):(parF ws)[i]'(by rw [par_len];exact h) = ((i:Int) + 1,tens ws[i].size.toNat):=by simp [parF]
structure WsOk (ws:List Sn):Prop where
 n:ws.length≤20
 s:∀ w∈ws,1≤w.size∧w.size≤20
theorem par_ok {ws:List Sn} (h:WsOk ws) {H:Int} (h1:1≤H) (h2:H≤60):VoOk ⟨H,parF ws⟩:=by
 refine ⟨⟨h1,h2⟩,by show (parF ws).length≤20;rw [par_len];exact h.n,fun x hx=>?_, ?_⟩
 ·obtain ⟨i,hi,rfl⟩:=List.getElem_of_mem hx
  have hi':i < ws.length:=by rw [← par_len];exact hi
  have e:=par_get ws hi'
  have hw:=h.s _ (List.getElem_mem hi')
  have hn:=h.n
  show PaOk (parF ws)[i]
  rw [e]
  refine ⟨?_,⟨?_,tens_bytes _⟩⟩
  ·simp only [inF,decide_eq_true_eq];omega
  ·dsimp only;rw [tens_size];omega
 ·show ((parF ws).map (·.1)).Nodup
  rw [parF,List.map_map,show ((fun x:Int × ByteArray=>x.1) ∘ fun x:Sn × Nat=>((x.2:Int) + 1,tens x.1.size.toNat)) = (fun n:Nat=>(n:Int) + 1) ∘ Prod.snd from rfl, ← List.map_map,List.zipIdx_map_snd]
  refine List.pairwise_map.2 ((List.pairwise_lt_range' (s:=0) (n:=ws.length)).imp ?_)
  intro a b hab
  omega
def lnS (ps:List (Int × ByteArray)):Int:=(ps.map fun p=>lnN p.2).sum
theorem prF_get (h:Int):∀ (ps:List (Int × ByteArray)) (L m:Int) (i:Nat) (hi:i < ps.length),(prF h ps L m)[i]? = some ⟨ps[i].1,1 + (L + lnS (ps.take i)) / h,(L + lnS (ps.take i)) % h + 1,lnN ps[i].2,0,m + i + 1⟩
 | p :: r,L,m,0,_=>by simp [prF,lnS]
 | p :: r,L,m,i + 1,hi=>by
  have hi':i < r.length:=by simpa using hi
  rw [prF,List.getElem?_cons_succ,prF_get h r _ _ i hi']
  simp only [List.getElem_cons_succ,List.take_succ_cons,lnS,List.map_cons,List.sum_cons]
  have e:L + lnN p.2 + ((r.take i).map fun p=>lnN p.2).sum = L + (lnN p.2 + ((r.take i).map fun p=>lnN p.2).sum):=by omega
  rw [e]
  simp only [Option.some.injEq,Pr.mk.injEq,true_and]
  omega
theorem lnS_par {ws:List Sn} (h:∀ w∈ws,1≤w.size∧w.size≤20):lnS (parF ws) = sumS ws:=by
 rw [lnS,parF,List.map_map,show ((fun p:Int × ByteArray=>lnN p.2) ∘ fun x:Sn × Nat=>((x.2:Int) + 1,tens x.1.size.toNat)) = (fun w:Sn=>lnN (tens w.size.toNat)) ∘ Prod.fst from rfl, ← List.map_map,List.zipIdx_map_fst,sumS]
 refine congrArg List.sum (List.map_congr_left fun w hw=>?_)
 rw [lnN_tens]
 have:=h w hw
 omega
theorem par_take (ws:List Sn) (i:Nat):(parF ws).take i = parF (ws.take i):=by
 simp only [parF, ← List.map_take]
 congr 1
 apply List.ext_getElem?
 intro j
 simp only [List.getElem?_take,List.getElem?_zipIdx]
 split<;>simp
theorem place_at {ws:List Sn} (h:WsOk ws) (H:Int) {i:Nat} (hi:i < ws.length):((prF H (parF ws) 0 0).map plF)[i]? = some ((i:Int) + 1,1 + sumS (ws.take i) / H,sumS (ws.take i) % H + 1,ws[i].size):=by
 rw [List.getElem?_map,prF_get H _ 0 0 i (by rw [par_len];exact hi),par_take,lnS_par fun w hw=>h.s w (List.mem_of_mem_take hw),par_get ws hi]
 have:=h.s _ (List.getElem_mem hi)
 simp only [Option.map_some,plF,lnN_tens,Int.zero_add]
 congr 1
 simp only [Prod.mk.injEq,true_and]
 omega
theorem col_line (s H:Int):(1 + s / H - 1) * H + (s % H + 1) - 1 = s:=by
 have:=Int.mul_ediv_add_emod s H
 have e:(1 + s / H - 1) * H = H * (s / H):=by rw [show 1 + s / H - 1 = s / H by omega,Int.mul_comm]
 omega
end Go.Proofs.Ytefnikpoimaiiaa

namespace Go.Proofs.Ytefnikpoimaiiaa
open Go.Pal Go.RowKit
set_option maxRecDepth 100000
def hp0:Hp:=fun _=>none
theorem Sound.relAt {P:Program} {f:FuncId} {sh:List Value→List Value} {α:Type} {R:GRel α} {q:α→Value→Hp→Prop} (hs:Sound P f sh (grel R q)) (ok:GOk R) (hm:∀ x v G G',Grow G G'→q x v G→q x v G') (x:α):Sound P f sh (.rel (fun args G=>R args G x) fun _ v G=>q x v G):=by
 refine ⟨fun _ v G G' hg h=>hm x v G G' hg h,fun args G W hsub hx=>(hs.2 args G W hsub ⟨x,hx⟩).mono ?_⟩
 rintro e W' ⟨v,G',h1,⟨y,hy,hq⟩,h3,h4⟩
 have:=ok.uniq _ _ _ _ hy (ok.grow _ _ _ _ h3 hx)
 subst this
 exact ⟨v,G',h1,hq,h3,h4⟩
theorem few_v {G:Hp} {v:Value} {ws:List Sn} (h:SsU G v ws) (hf:fewF ws = true):SnsV G v ws:=by
 obtain ⟨a,n,c,rfl,hl,hn⟩:=h
 simp only [fewF,Bool.and_eq_true,decide_eq_true_eq,List.all_eq_true,fewS] at hf
 refine ⟨a,n,c,rfl,SlR.conv hl rfl fun i h1 h2 cs ⟨u,e,hu⟩=>⟨u,e,hu.v ?_⟩,by rw [← hl.len];omega⟩
 have:=hf.1 _ (List.getElem_mem h1)
 omega
set_option maxHeartbeats 4000000 in
theorem law5 (ws:List Sn) (wh:Int):Sound Try.prog 5 id (.hp (fun args p G=>p = hp0∧∃ v,args = [v,U wh]∧SsU G v ws∧0≤wh∧wh≤255) fun _ _ v _ _=>v = .bool true):=by
 refine comp5.hp (Tab.nil _) (fun args p G h=>?_) (fun args p v p' G G' hg h=>h) (fun args p G h=>?_)
 ·obtain ⟨_,v,rfl,_⟩:=h;simp
 ·obtain ⟨rfl,v,rfl,hv,hw1,hw2⟩:=h
  obtain ⟨a,n,c,rfl,hl,hn⟩:=id hv
  (conv=>whnf)
  refine CallH.mk _ few27 body27 (W.mk ?_)
  (conv=>whnf)
  refine ScaP.mk ⟨ws,_,rfl,hv⟩ (fun v hvv=>W.mk ?_)
  obtain ⟨ws',⟨_,e,hv'⟩,rfl⟩:=hvv
  cases e
  have e:=ssRd.uniq (G:=G) hv' hv
  subst e
  dsimp only
  (conv=>whnf)
  refine ForkP.mk (fun hf=>W.mk ?_) (fun hf=>W.mk ?_)<;>(conv=>whnf)
  rotate_left
  ·refine CallH.mk _ binds29 body29 (W.mk ?_)
   (conv=>whnf)
   refine ScaP.mk ⟨(),rfl⟩ (fun v hv=>W.mk ?_)
   obtain ⟨_,_,rfl⟩:=hv
   (conv=>whnf)
   refine ForkP.mk (fun _=>W.mk ?_) (fun h=>by cases h)
   (conv=>whnf)
   refine NmP.mk ⟨[],W.mk ?_⟩
   (conv=>whnf)
   exact FinHp.of rfl rfl
  have hv2:=few_v hv hf
  refine CallH.mk _ fault28 body28 (W.mk ?_)
  (conv=>whnf)
  refine ScaP.mk ⟨ws',_,rfl,hv2⟩ (fun v hvv=>W.mk ?_)
  obtain ⟨ws'',⟨_,e,hv''⟩,rfl⟩:=hvv
  cases e
  have e:=snsRd.uniq (G:=G) hv'' hv2
  subst e
  (conv=>whnf)
  refine IteP.mk (fun hz=>W.mk ?_) (fun hz=>W.mk ?_)<;>(conv=>whnf)
  rotate_left
  ·refine CallH.mk _ binds29 body29 (W.mk ?_)
   (conv=>whnf)
   refine ScaP.mk ⟨(),rfl⟩ (fun v hv=>W.mk ?_)
   obtain ⟨_,_,rfl⟩:=hv
   (conv=>whnf)
   refine ForkP.mk (fun _=>W.mk ?_) (fun h=>by cases h)
   (conv=>whnf)
   refine NmP.mk ⟨[],W.mk ?_⟩
   (conv=>whnf)
   exact FinHp.of rfl rfl
  repeat' (refine ob ?_ ?_;(first | trivial | omega | (simp only [inR];omega) | exact ble (by rfl) | exact SlR.some ‹_› (by omega));(conv=>whnf))
  obtain ⟨H,hH⟩:∃ H,1 + wh % 60 = H:=⟨_,rfl⟩
  have hH1:1≤H:=by omega
  have hH2:H≤60:=by omega
  have hn20:ws''.length≤20:=by
   simp only [faultS] at hz
   split at hz
   ·cases hz
   ·omega
  have hlen:=hl.len
  have hs1:∀ w∈ws'',1≤w.size∧w.size≤200:=fun w hw=>by
   have:=(fault_ok hz).2.2 w hw
   simp only [badS,inF,Bool.or_eq_false_iff,Bool.not_eq_false',decide_eq_true_eq] at this
   omega
  have hl2:SlR 2 SnR G a n c ws'':=by
   obtain ⟨_,_,_,e,h1,_⟩:=hv2
   cases e;exact h1
  try simp only [hH]
  refine LoopP.of { α:=Nat × Hp × Value × Nat × List Value,fr:=fun x=>[(0, .v (.slice a n c)),(5, .c (.ptr 2 0)),(6, .c (.row 3 x.2.2.2.1)),(7, .v (I x.1))],H:=fun x=>[(0, .heap x.2.1),(1, .row none 1 [I 0,x.2.2.1] 93 2),(2, .cells .anon [.val (I 1), .val (I 0), .val (I H), .val (I 10), .row 1 1] 96),(3, .row none x.2.2.2.1 x.2.2.2.2 103 2)],ok:=fun x _=>x.1≤ws''.length∧RowH paE 101 x.2.1 x.2.2.1 (parF (ws''.take x.1))∧(∀ b o,x.2.1 b = some o→∃ ds t,o = .cells ds t (0,0))∧Row spE (List.replicate x.1 (1,1)) x.2.2.2.1 x.2.2.2.2∧∀ w∈ws''.take x.1,w.size≤20,m:=fun x=>ws''.length - x.1 }
   (0,hp0, .slice none 0 0,0,[]) (HeadP.of [(1,some 1016),(2,some 1018),(3,none)] ⟨rfl,rfl,rfl,rfl,trivial⟩ ⟨rfl,rfl,rfl,rfl,trivial⟩) ⟨Nat.zero_le _,RowH.nil,(fun b o h=>by cases h),Row.nil,(fun w hw=>by simp at hw)⟩ (fun _=>⟨rfl,rfl⟩) (fun x G1 hg1 hx=>W.mk ?_)
  obtain ⟨i,p,xv,n1,vs1⟩:=x
  obtain ⟨hi,hrow,hpl,hst,hsz⟩:=hx
  dsimp only at hi hrow hpl hst hsz
  have hl3:=SlR.grow (G:=G) (G':=G1) (fun _ _ h=>h.grow hg1) hl2 hg1
  dsimp only
  (conv=>whnf)
  refine IteP.mk (fun hlt=>W.mk ?_) (fun hge=>W.mk ?_)<;>(conv=>whnf)
  ·have hlt:i < ws''.length:=by omega
   repeat' (first | (refine ob ?_ ?_;(first | trivial | omega | (simp only [inR];omega) | exact ble (by rfl) | exact SlR.some ‹_› (by omega));(conv=>whnf)) | (first | (refine ra ‹_› (by rfl) ?_;(conv=>whnf)) | (refine rb ‹_› (by rfl) ?_;(conv=>whnf)) | (refine rc ‹_› (by rfl) ?_;(conv=>whnf)) | (refine rd ‹_› (by rfl) ?_;(conv=>whnf))))
   obtain ⟨cs,k1,k2,us,rfl,hus⟩:=hl3.at_ i (by omega)
   have htk:=take_snoc (List.getElem?_eq_getElem hlt)
   have hbd:=hz
   have hw0:=List.getElem_mem hlt
   generalize ws''[i] = y at htk hus k2 hw0
   have k3:CellsAt G1 (ab a) (ao a + (i:Int).toNat * 2 + 1) [I y.size]:=fun j u hj=>by
    rw [Int.toNat_natCast,Nat.add_assoc,Nat.add_comm 1 j]
    exact k2 (j + 1) u (by simpa using hj)
   refine RdhP.g k3 rfl (W.mk ?_)
   (conv=>whnf)
   refine IteP.mk (fun hbig=>W.mk ?_) (fun hbig=>W.mk ?_)<;>(conv=>whnf)
   ·refine CallH.mk _ binds29 body29 (W.mk ?_)
    (conv=>whnf)
    refine ScaP.mk ⟨(),rfl⟩ (fun v hv=>W.mk ?_)
    obtain ⟨_,_,rfl⟩:=hv
    (conv=>whnf)
    refine ForkP.mk (fun _=>W.mk ?_) (fun h=>by cases h)
    (conv=>whnf)
    refine NmP.mk ⟨[],W.mk ?_⟩
    (conv=>whnf)
    exact FinHp.of rfl rfl
   obtain ⟨hy1,_⟩:=hs1 _ hw0
   obtain ⟨sz,hsz0⟩:∃ sz:Nat,y.size = sz:=⟨y.size.toNat,by omega⟩
   rw [hsz0] at k3 hbig hy1
   refine LoopP.of { α:=Nat × Unit,fr:=fun k=>[(0, .v (.slice a n c)),(5, .c (.ptr 2 0)),(6, .c (.row 3 n1)),(7, .v (I i)),(8, .c (.val (.string (tens k.1)))),(9, .v (I k.1))],H:=fun _=>[(0, .heap p),(1, .row none 1 [I 0,xv] 93 2),(2, .cells .anon [.val (I 1), .val (I 0), .val (I H), .val (I 10), .row 1 1] 96),(3, .row none n1 vs1 103 2)],ok:=fun k _=>k.1≤sz,m:=fun k=>sz - k.1 }
    (0,()) (HeadP.of [] ⟨rfl,rfl,rfl,rfl,rfl,rfl,trivial⟩ ⟨rfl,rfl,rfl,rfl,trivial⟩) (Nat.zero_le _) (fun _=>⟨rfl,rfl⟩) (fun x G2 hg2 hk=>W.mk ?_)
   obtain ⟨k,_⟩:=x
   have hk:k≤sz:=hk
   dsimp only
   have k4:=k3.grow hg2
   (conv=>whnf)
   repeat' (first | (refine ob ?_ ?_;(first | trivial | omega | (simp only [inR];omega) | exact ble (by rfl) | exact SlR.some ‹_› (by omega));(conv=>whnf)) | (first | (refine ra ‹_› (by rfl) ?_;(conv=>whnf)) | (refine rb ‹_› (by rfl) ?_;(conv=>whnf)) | (refine rc ‹_› (by rfl) ?_;(conv=>whnf)) | (refine rd ‹_› (by rfl) ?_;(conv=>whnf))))
   refine RdhP.g k4 rfl (W.mk ?_)
   (conv=>whnf)
   refine IteP.mk (fun hlt2=>W.mk ?_) (fun hge2=>W.mk ?_)<;>(conv=>whnf)
   ·refine PurP.of _ (pur_catS (tens k) ten (by rw [tens_size,show ten.size = 10 from rfl];omega)) (W.mk ?_)
    (conv=>whnf)
    repeat' (refine ob ?_ ?_;(first | trivial | omega | (simp only [inR];omega) | exact ble (by rfl) | exact SlR.some ‹_› (by omega));(conv=>whnf))
    exact RoundP.of (k + 1,()) (HeadP.of [] ⟨rfl,rfl,rfl,rfl,rfl,rfl,trivial⟩ ⟨rfl,rfl,rfl,rfl,trivial⟩) (by show k + 1≤sz;omega) (by simp only;omega)
   ·have hke:k = sz:=by omega
    subst hke
    have htl:(ws''.take i).length = i:=by rw [List.length_take];omega
    have hpn:parF (ws''.take (i + 1)) = parF (ws''.take i)++[((i:Int) + 1,tens k)]:=by
     rw [htk,par_snoc,htl,hsz0,Int.toNat_natCast]
    have hszn:∀ w∈ws''.take (i + 1),w.size≤20:=fun w hw=>by
     rw [htk,List.mem_append,List.mem_singleton] at hw
     rcases hw with hw | rfl
     ·exact hsz w hw
     ·omega
    have hst':Row spE (List.replicate (i + 1) (1,1)) (n1 + 1) (vs1++[I 1,I 1]):=by
     rw [List.replicate_succ'];exact hst.snoc (1,1)
    have hnn:n1 = i:=by have:=hst.n;rwa [List.length_replicate] at this
    have hpll:(parF (ws''.take i)).length = i:=by rw [par_len,htl]
    generalize parF (ws''.take i) = L at hrow hpn hpll
    have plain:∀ (b':Nat) (ds:List Value), ∀ b o,upd p b' (some (.cells ds.toArray 101 (0,0))) b = some o→∃ ds t,o = .cells ds t (0,0):=fun b' ds b o e=>by
     by_cases h:b = b'
     ·subst h;rw [upd_same] at e;cases e;exact ⟨_,_,rfl⟩
     ·rw [upd_other _ _ h] at e;exact hpl b o e
    have hnext:∀ (p':Hp) (xv':Value),RowH paE 101 p' xv' (L++[((i:Int) + 1,tens k)])→(∀ b o,p' b = some o→∃ ds t,o = .cells ds t (0,0))→i + 1≤ws''.length∧RowH paE 101 p' xv' (parF (ws''.take (i + 1)))∧(∀ b o,p' b = some o→∃ ds t,o = .cells ds t (0,0))∧Row spE (List.replicate (i + 1) (1,1)) (n1 + 1) (vs1++[I 1,I 1])∧∀ w∈ws''.take (i + 1),w.size≤20:=fun p' xv' h1 h2=>⟨hlt,by rw [hpn];exact h1,h2,hst',hszn⟩
    rcases hrow with ⟨rfl,hl0⟩ | ⟨b,c',rest,rfl,hb',hr,hc',hm⟩
    ·subst hl0
     refine DrawP.mk monoT_nil rfl (W.mk ?_)
     (conv=>whnf)
     repeat' (first | (refine OblP.mk rfl (W.mk ?_);(conv=>whnf)) | (refine ob ?_ ?_;(first | trivial | omega | (simp only [inR];omega) | exact ble (by rfl) | exact SlR.some ‹_› (by omega));(conv=>whnf)))
     refine ⟨[.slice none 0 0],rfl,rfl,W.mk ?_⟩
     (conv=>whnf)
     repeat' (first | (refine OblP.mk rfl (W.mk ?_);(conv=>whnf)) | (refine ob ?_ ?_;(first | trivial | omega | (simp only [inR];omega) | exact ble (by rfl) | exact SlR.some ‹_› (by omega));(conv=>whnf)))
     refine AppnP.mk (fun b' cap rest' hb1 hb2 hb3 hb4=>W.mk ?_)
     (conv=>whnf)
     repeat' (first | (refine OblP.mk rfl (W.mk ?_);(conv=>whnf)) | (refine ob ?_ ?_;(first | trivial | omega | (simp only [inR];omega) | exact ble (by rfl) | exact SlR.some ‹_› (by omega));(conv=>whnf)))
     exact RoundP.of (i + 1,_,_,n1 + 1,vs1++[I 1,I 1]) (HeadP.of [(3,some 1068)] ⟨rfl,rfl,rfl,rfl,trivial⟩ ⟨rfl,rfl,rfl,rfl,trivial⟩) (hnext _ _ (RowH.appNew (t:=101) (p:=p) (b:=b') (c:=cap) (l:=[]) (us:=[((i:Int) + 1,tens k)]) (vs:=[]) (rest':=rest') rfl hb4 hb2 hb3) (plain _ _)) (by simp only;omega)
    ·have hin:=fun hc2=>RowH.appIn (t:=101) (p:=p) (b:=b) (us:=[((i:Int) + 1,tens k)]) hr hc2 hm
     have hnw:=fun (b' cap:Nat) (rest':List Value)=>RowH.appNew (t:=101) (p:=p) (b:=b') (c:=cap) (l:=L) (us:=[((i:Int) + 1,tens k)]) (vs:=(flat paE L++rest).take (L.length * paE.k)) (rest':=rest') take_flat
     have hone:∀ u∈(flat paE L++rest).take (L.length * paE.k),u.oneCell' = true:=by rw [take_flat];exact flat_one _ _
     have hlen2:(flat paE L++rest).length = c' * 2:=by rw [List.length_append,flat_len,hr,show paE.k = 2 from rfl];omega
     refine DrawP.mk monoT_nil rfl (W.mk ?_)
     (conv=>whnf)
     repeat' (first | (refine OblP.mk rfl (W.mk ?_);(conv=>whnf)) | (refine ob ?_ ?_;(first | trivial | omega | (simp only [inR];omega) | exact ble (by rfl) | exact SlR.some ‹_› (by omega));(conv=>whnf)))
     refine ⟨[.slice (some ⟨b,0,none⟩) L.length c'],rfl,rfl,W.mk ?_⟩
     (conv=>whnf)
     repeat' (first | (refine OblP.mk rfl (W.mk ?_);(conv=>whnf)) | (refine ob ?_ ?_;(first | trivial | omega | (simp only [inR];omega) | exact ble (by rfl) | exact SlR.some ‹_› (by omega));(conv=>whnf)))
     refine HpkP.mk ⟨_,101,hb',W.mk ?_⟩
     (conv=>whnf)
     refine OblP.mk ⟨rfl,rfl,hlen2,hc',hm,hone⟩ (W.mk ?_)
     (conv=>whnf)
     refine OblP.mk rfl (W.mk ?_)
     (conv=>whnf)
     refine OblP.mk ⟨by omega,by omega⟩ (W.mk ?_)
     (conv=>whnf)
     refine IteP.mk (fun hcap=>W.mk ?_) (fun hcap=>W.mk ?_)<;>(conv=>whnf)
     ·repeat' (first | (refine OblP.mk rfl (W.mk ?_);(conv=>whnf)) | (refine ob ?_ ?_;(first | trivial | omega | (simp only [inR];omega) | exact ble (by rfl) | exact SlR.some ‹_› (by omega));(conv=>whnf)))
      exact RoundP.of (i + 1,_,_,n1 + 1,vs1++[I 1,I 1]) (HeadP.of [(3,some 1068)] ⟨rfl,rfl,rfl,rfl,trivial⟩ ⟨rfl,rfl,rfl,rfl,trivial⟩) (hnext _ _ (hin (by simp only [List.length_singleton];omega)) (plain _ _)) (by simp only;omega)
     ·refine AppnP.mk (fun b' cap rest' hb1 hb2 hb3 hb4=>W.mk ?_)
      (conv=>whnf)
      repeat' (first | (refine OblP.mk rfl (W.mk ?_);(conv=>whnf)) | (refine ob ?_ ?_;(first | trivial | omega | (simp only [inR];omega) | exact ble (by rfl) | exact SlR.some ‹_› (by omega));(conv=>whnf)))
      exact RoundP.of (i + 1,_,_,n1 + 1,vs1++[I 1,I 1]) (HeadP.of [(3,some 1068)] ⟨rfl,rfl,rfl,rfl,trivial⟩ ⟨rfl,rfl,rfl,rfl,trivial⟩) (hnext _ _ (hnw b' cap rest' hb4 hb2 hb3) (plain _ _)) (by simp only;omega)
  ·have hie:i = ws''.length:=by omega
   subst hie
   rw [List.take_length] at hrow hsz
   have hok:WsOk ws'':=⟨hn20,fun w hw=>⟨(hs1 w hw).1,hsz w hw⟩⟩
   have hB:SnB ws'':=⟨by omega,fun w hw=>by have:=(fault_ok hz).2.1 w hw;omega⟩
   have hv3:SnsV G1 (.slice a n c) ws'':=hv2.grow hg1
   refine CallH.mk _ text31 body31 (W.mk ?_)
   (conv=>whnf)
   refine RelP.g (ok1 snsRd SnB) (x:=ws'') ⟨_,rfl,hv3,hB⟩ (Grow.refl _) (fun v G2 hg2 hq2=>W.mk ?_)
   obtain ⟨a2,n2,c2,rfl,_,_⟩:=id hq2
   (conv=>whnf)
   refine CallH.mk _ text31 body31 (W.mk ?_)
   (conv=>whnf)
   refine RelP.g (ok1 snsRd SnB) (x:=ws'') ⟨_,rfl,hv3.grow hg2,hB⟩ (Grow.refl _) (fun v G3 hg3 hq3=>W.mk ?_)
   obtain ⟨a3,n3,c3,rfl,_,_⟩:=id hq3
   (conv=>whnf)
   refine PubP.mk (fun a4 c4 G4 hg4 h4=>W.mk ?_)
   have hsteps:=hst.pub h4 (by have:=hst.n;rw [List.length_replicate] at this;omega)
   (conv=>whnf)
   refine CallH.mk _ level30 body30 (W.mk ?_)
   (conv=>whnf)
   refine RelP.g lvOk (x:=ws'') ⟨_,_,_,rfl,hq2.grow (hg3.trans hg4),hq3.grow hg4,⟨hsteps,rfl,hn20⟩,hz⟩ (Grow.refl _) (fun v G5 hg5 hq5=>W.mk ?_)
   obtain ⟨bv,rfl,hbg⟩:=hq5
   obtain ⟨ba,bn,bc,rfl,hb1,hb2⟩:=id hbg
   (conv=>whnf)
   repeat' (first | (refine OblP.mk rfl (W.mk ?_);(conv=>whnf)) | (refine ob ?_ ?_;(first | trivial | omega | (simp only [inR];omega) | exact ble (by rfl) | exact SlR.some ‹_› (by omega));(conv=>whnf)))
   refine PubP.mk (fun a6 c6 G6 hg6 h6=>W.mk ?_)
   (conv=>whnf)
   refine CallH.mk _ (Sound.hpRelX (Sound.relAt Print32 prOk (fun x v G G' hg ⟨w,h1,h2⟩=>⟨w,h1,h2.grow hg⟩) ⟨H,parF ws''⟩)) body32 (W.mk ?_)
   (conv=>whnf)
   refine HpcP.mk (fun G7 _ ho=>⟨_,rfl,⟨a6,c6,xv,rfl,h6.cap,h6.some (by decide),h6.cells.grow ho.1,hrow.slV ho.2.1 (by rw [par_len];omega)⟩,par_ok hok hH1 hH2⟩) (fun v p' G7 hg7 hq7=>W.mk ?_)
   obtain ⟨rfl,hq7⟩:=hq7
   obtain ⟨w,rfl,hw⟩:∃ w,v = .tuple #[w,I 0]∧OverX p' G7 fun G1=>SlV plE' G1 w ((prF H (parF ws'') 0 0).map plF):=by
    obtain ⟨G0,G1',o1,o2,w,o3,o4⟩:=hq7
    exact ⟨w,o3,G0,G1',o1,o2,o4⟩
   obtain ⟨wa,wn,wc,rfl,hwn,hw⟩:∃ wa wn wc,w = .slice wa wn wc∧ws''.length = wn∧OverX p' G7 fun G1=>SlR plE'.k plE'.R G1 wa wn wc ((prF H (parF ws'') 0 0).map plF):=by
    obtain ⟨G0,G1',o1,o2,wa,wn,wc,rfl,o3,_⟩:=hw
    exact ⟨wa,wn,wc,rfl,by have:=o3.len;rw [List.length_map,prF_len,par_len] at this;exact this,G0,G1',o1,o2,o3⟩
   have hbn:=hb1.len
   rw [beginsF,List.length_map,List.length_range] at hbn
   (conv=>whnf)
   refine IteP.mk (fun _=>W.mk ?_) (fun h=>absurd (by first | rfl | omega) h)
   (conv=>whnf)
   refine IteP.mk (fun _=>W.mk ?_) (fun h=>absurd (by first | rfl | omega) h)
   (conv=>whnf)
   refine IteP.mk (fun _=>W.mk ?_) (fun h=>absurd (by first | rfl | omega) h)
   (conv=>whnf)
   refine IteP.mk (fun _=>W.mk ?_) (fun h=>absurd (by first | rfl | omega) h)
   (conv=>whnf)
   refine IteP.mk (fun _=>W.mk ?_) (fun h=>absurd (by first | rfl | omega) h)
   (conv=>whnf)
   refine LoopP.of { α:=Nat × Int,fr:=fun x=>[(0, .v (.slice a n c)),(5, .c (.ptr 2 0)),(10, .v (.slice ba bn bc)),(11, .v (I (sumS ws''))),(14, .v (.slice wa wn wc)),(16, .v (I x.2)),(17, .v (I x.1))],H:=fun _=>[(0, .heap p'),(1, .row (some (.slice a6 1 c6)) 1 [I 0,xv] 93 2),(2, .cells .anon [.val (I 1), .val (I 0), .val (I H), .val (I 10), .row 1 1] 96)],ok:=fun x _=>x.1≤ws''.length∧x.2 = sumS (ws''.take x.1),m:=fun x=>ws''.length - x.1 }
    (0,0) (HeadP.of [] ⟨rfl,rfl,rfl,rfl,rfl,rfl,rfl,trivial⟩ ⟨rfl,rfl,rfl,trivial⟩) ⟨Nat.zero_le _,rfl⟩ (fun _=>⟨rfl,rfl⟩) (fun x G8 hg8 hx=>W.mk ?_)
   obtain ⟨i,s⟩:=x
   obtain ⟨hi,hs⟩:=hx
   dsimp only at hi hs
   have hs:=hs.symm
   dsimp only
   (conv=>whnf)
   refine IteP.mk (fun hlt=>W.mk ?_) (fun hge=>W.mk ?_)<;>(conv=>whnf)
   ·have hlt:i < ws''.length:=by omega
    repeat' (refine ob ?_ ?_;(first | trivial | omega | (simp only [inR];omega) | exact ble (by rfl) | exact SlR.some ‹_› (by omega));(conv=>whnf))
    have hget:=place_at hok H hlt
    have htk:=take_snoc (List.getElem?_eq_getElem hlt)
    have hs0:=sumS_bd (l:=ws''.take i) (fun w hw=>hs1 w (List.mem_of_mem_take hw))
    have htl:(ws''.take i).length = i:=by rw [List.length_take];omega
    rw [htl,hs] at hs0
    rw [hs] at hget
    have hsn:sumS (ws''.take (i + 1)) = s + ws''[i].size:=by rw [htk,sumS,List.map_append,List.sum_append, ← hs];simp [sumS]
    have hbe:(beginsF ws'')[i]? = some s:=by rw [beginsF,List.getElem?_map,List.getElem?_range hlt, ← hs];rfl
    have hyb:=hs1 _ (List.getElem_mem hlt)
    obtain ⟨cs,k1,k2,us,rfl,hus⟩:=(SlR.grow (G:=G1) (G':=G8) (fun _ _ h=>h.grow ((hg2.trans (hg3.trans (hg4.trans (hg5.trans (hg6.trans hg7))))).trans hg8)) hl3 ((hg2.trans (hg3.trans (hg4.trans (hg5.trans (hg6.trans hg7))))).trans hg8)).at_ i (by omega)
    generalize ws''[i] = y at hget htk hsn hyb hus k2
    have k3:CellsAt G8 (ab a) (ao a + (i:Int).toNat * 2 + 1) [I y.size]:=fun j u hj=>by
     rw [Int.toNat_natCast,Nat.add_assoc,Nat.add_comm 1 j]
     exact k2 (j + 1) u (by simpa using hj)
    have hbc:CellsAt G8 (ab ba) (ao ba + (i:Int).toNat * 1) [I s]:=by
     obtain ⟨hbi,hbe⟩:=List.getElem?_eq_some_iff.1 hbe
     have:=(SlR.grow (G:=G5) (G':=G8) (fun _ _ h=>h) hb1 ((hg6.trans hg7).trans hg8)).el hbi
     rw [hbe] at this
     exact this
    have hwc:OverX p' G8 fun G1=>CellsAt G1 (ab wa) (ao wa + (i:Int).toNat * 4) [I ((i:Int) + 1),I (1 + s / H),I (s % H + 1),I y.size]:=(hw.grow hg8).imp fun G1 h=>by
     obtain ⟨hwi,hwe⟩:=List.getElem?_eq_some_iff.1 hget
     have:=h.el hwi
     rw [hwe] at this
     exact this
    have hws:wa = some ⟨ab wa,ao wa,none⟩:=by
     obtain ⟨_,_,_,_,h⟩:=hw
     exact h.some (by omega)
    have hq0:=Int.ediv_nonneg (a:=s) (b:=H) (by omega) (by omega)
    have hq1:=Int.ediv_le_self H hs0.1
    have hr0:=Int.emod_nonneg s (b:=H) (by omega)
    have hr1:=Int.emod_lt_of_pos s (b:=H) (by omega)
    have hcl:=col_line s H
    generalize hQ:s / H = Q at *
    generalize hR:s % H = R at *
    refine OblP.mk hws (W.mk ?_)
    (conv=>whnf)
    refine OverX.rd hpl (hwc.imp fun G1 h=>h.drop (d:=1) (n:=1)) (by decide) rfl (W.mk ?_)
    (conv=>whnf)
    repeat' (refine ob ?_ ?_;(first | trivial | omega | (simp only [inR];omega) | exact ble (by rfl) | exact SlR.some ‹_› (by omega));(conv=>whnf))
    refine OverX.rd hpl (hwc.imp fun G1 h=>h.drop (d:=2) (n:=1)) (by decide) rfl (W.mk ?_)
    (conv=>whnf)
    repeat' (refine ob ?_ ?_;(first | trivial | omega | (simp only [inR];omega) | exact ble (by rfl) | exact SlR.some ‹_› (by omega));(conv=>whnf))
    try (refine OblP.mk (hb1.some (by omega)) (W.mk ?_);(conv=>whnf))
    refine RdhP.g hbc rfl (W.mk ?_)
    (conv=>whnf)
    refine IteP.mk (fun _=>W.mk ?_) (fun h=>absurd hcl h)
    (conv=>whnf)
    repeat' (refine ob ?_ ?_;(first | trivial | omega | (simp only [inR];omega) | exact ble (by rfl) | exact SlR.some ‹_› (by omega));(conv=>whnf))
    try (refine OblP.mk hws (W.mk ?_);(conv=>whnf))
    refine OverX.rd hpl (hwc.imp fun G1 h=>h.drop (d:=3) (n:=1)) (by decide) rfl (W.mk ?_)
    (conv=>whnf)
    repeat' (refine ob ?_ ?_;(first | trivial | omega | (simp only [inR];omega) | exact ble (by rfl) | exact SlR.some ‹_› (by omega));(conv=>whnf))
    try (refine OblP.mk (hl.some (by omega)) (W.mk ?_);(conv=>whnf))
    refine RdhP.g k3 rfl (W.mk ?_)
    (conv=>whnf)
    refine IteP.mk (fun _=>W.mk ?_) (fun h=>absurd rfl h)
    (conv=>whnf)
    repeat' (refine ob ?_ ?_;(first | trivial | omega | (simp only [inR];omega) | exact ble (by rfl) | exact SlR.some ‹_› (by omega));(conv=>whnf))
    refine OverX.rd hpl (hwc.imp fun G1 h=>h.drop (d:=3) (n:=1)) (by decide) rfl (W.mk ?_)
    (conv=>whnf)
    repeat' (refine ob ?_ ?_;(first | trivial | omega | (simp only [inR];omega) | exact ble (by rfl) | exact SlR.some ‹_› (by omega));(conv=>whnf))
    exact RoundP.of (i + 1,s + y.size) (HeadP.of [] ⟨rfl,rfl,rfl,rfl,rfl,rfl,rfl,trivial⟩ ⟨rfl,rfl,rfl,trivial⟩) ⟨hlt,hsn.symm⟩ (by simp only;omega)
   ·have hie:i = ws''.length:=by omega
    subst hie
    rw [List.take_length] at hs
    subst hs
    refine IteP.mk (fun _=>W.mk ?_) (fun h=>absurd rfl h)
    (conv=>whnf)
    refine CallH.mk _ binds29 body29 (W.mk ?_)
    (conv=>whnf)
    refine ScaP.mk ⟨(),rfl⟩ (fun v hv=>W.mk ?_)
    obtain ⟨_,_,rfl⟩:=hv
    (conv=>whnf)
    refine ForkP.mk (fun _=>W.mk ?_) (fun h=>by cases h)
    (conv=>whnf)
    refine NmP.mk ⟨[],W.mk ?_⟩
    (conv=>whnf)
    exact FinHp.of rfl rfl
end Go.Proofs.Ytefnikpoimaiiaa
