/- TopRevised: told day by day. -/
import Derived.Test.YtefnikpoimaiiaaGreatMH
import Derived.Test.YtefnikpoimaiiaaGreatME
set_option linter.unusedSimpArgs false
set_option linter.unusedVariables false
namespace Go.Proofs.YtefnikpoimaiiaaGreat
open Go Go.Pal Go.RowKit
set_option maxRecDepth 100000
theorem eqIS_run {P : Program} {t s e : TypeId} (hu : (match P.underlying t with | some (.struct _) => true | _ => false) = true) (hf : (P.fieldsOf t).toList.map (fun f => (f.type, f.offset)) = [(e, 0), (s, 1)]) (hn : (P.fieldsOf t).toList.all (fun f => f.name != "_") = true) (hse : P.underlying s = some .string) (he : P.underlying e = some (.int .i64)) (hzs : szT P s = some 1) (hz : szT P e = some 1)
  (hs:P.stoodInHeld t = false) (w:World) (a c:ByteArray) (b d:Int):(Op.equalIn 10000 t (.agg #[I b, .string a]) (.agg #[I d, .string c])).run P w = .ok (decide (b = d∧a = c)) w:=by
 rw [show (10000:Nat) = 9999 + 1 from rfl,run_equalIn_struct w 9999 t _ _ (struct_of hu) hs]
 generalize (P.fieldsOf t).toList = fs at hf hn
 have hag:aggT P e = some false:=by simp [aggT,he]
 have hags:aggT P s = some false:=by simp [aggT,hse]
 have hsz:=run_sizeOf' (P:=P) (W:=w) (t:=e) (n:=1) hz
 have hgg:=run_isAgg' (P:=P) (W:=w) (t:=e) (g:=false) hag
 have hszs:=run_sizeOf' (P:=P) (W:=w) (t:=s) (n:=1) hzs
 have hggs:=run_isAgg' (P:=P) (W:=w) (t:=s) (g:=false) hags
 obtain ⟨f1,f2,rfl⟩:∃ f1 f2,fs = [f1,f2]:=by
  have hl:=congrArg List.length hf
  simp only [List.length_map,List.length_cons,List.length_nil] at hl
  match fs,hl with
  | [f1,f2],_=>exact ⟨f1,f2,rfl⟩
 simp only [List.map_cons,List.map_nil,List.cons.injEq,Prod.mk.injEq,and_true] at hf
 obtain ⟨⟨t1,o1⟩,t2,o2⟩:=hf
 simp only [List.all_cons,List.all_nil,Bool.and_true,Bool.and_eq_true,bne_iff_ne,ne_eq] at hn
 have he1:=fun a b=>run_equalIn_int (P:=P) w 9998 e .i64 .i64 a b he
 have hs1:=fun a b=>run_equalIn_str (P:=P) w 9998 s a b hse
 simp only [Op.eqFields,t1,o1,t2,o2,hn.1,hn.2,ne_eq,not_false_eq_true,if_true]
 simp [part,hsz,hgg,hszs,hggs,he1,hs1,Result.andThen]
 by_cases h1:b = d
 ·subst h1
  by_cases h2:a = c
  ·subst h2;simp [hs1]
  ·simp [hs1,h2]
 ·simp [h1]
theorem pur_neIS {P : Program} {t s e : TypeId} (hu : (match P.underlying t with | some (.struct _) => true | _ => false) = true) (hf : (P.fieldsOf t).toList.map (fun f => (f.type, f.offset)) = [(e, 0), (s, 1)]) (hn : (P.fieldsOf t).toList.all (fun f => f.name != "_") = true) (hse : P.underlying s = some .string) (he : P.underlying e = some (.int .i64)) (hzs : szT P s = some 1) (hz : szT P e = some 1)
  (hs:P.stoodInHeld t = false) (hg:P.eqGuardType P.depth t = false) (a c:ByteArray) (b d:Int):∀ w,((POp.bin .neq t).sem [.agg #[I b, .string a], .agg #[I d, .string c]]).run P w = .ok (.bool (!decide (b = d∧a = c))) w:=fun w=>by
 have e1:(POp.bin .neq t).sem [.agg #[I b, .string a], .agg #[I d, .string c]] = (do eqGuard .neq t (.tmp 0) (.tmp 0) (.agg #[I b, .string a]) (.agg #[I d, .string c]);binOp .neq t (.agg #[I b, .string a]) (.agg #[I d, .string c])):=rfl
 rw [e1]
 simp [run_eqGuard_agg w .neq t _ _ _ _ hg,run_neq_struct,eqIS_run hu hf hn hse he hzs hz hs w,Result.andThen]
theorem ne99 (a c:ByteArray) (b d:Int):∀ w,((POp.bin .neq 99).sem [.agg #[I b, .string a], .agg #[I d, .string c]]).run Tryz.prog w = .ok (.bool (!decide (b = d∧a = c))) w :=
 pur_neIS (s:=9) (e:=3) (by kernel_rfl) (by kernel_rfl) (by kernel_rfl) (by kernel_rfl) (by kernel_rfl) (by kernel_rfl) (by kernel_rfl) (by kernel_rfl) (by kernel_rfl) a c b d
theorem tx_day:∀ (r:List ByteArray) (i k:Nat) (s:ByteArray) (h:k < (s :: r).length),txF s (issF (errF i r) (((i + k:Nat):Int) - 1)) = (s :: r)[k]
 | [],i,0,s,_=>rfl
 | [],i,k + 1,s,h=>by simp at h
 | x :: r,i,0,s,_=>by
  rw [errF,issF,List.takeWhile_cons,decide_eq_false (by dsimp only;omega)];rfl
 | x :: r,i,k + 1,s,h=>by
  have ih:=tx_day r (i + 1) k x (by simpa using h)
  rw [show i + 1 + k = i + (k + 1) by omega] at ih
  rw [errF,issF,List.takeWhile_cons,decide_eq_true (by dsimp only;omega)]
  exact ih
theorem err_mem:∀ (r:List ByteArray) (i:Nat) (x:Er),x∈errF i r→∃ j,i≤j∧j < i + r.length∧x.n = j∧x.d = j∧x.k = 0∧x.a = 1∧x.w = 0∧x.t∈r
 | [],_,x,h=>by simp [errF] at h
 | s :: r,i,x,h=>by
  rw [errF,List.mem_cons] at h
  rcases h with rfl | h
  ·exact ⟨i,Nat.le_refl _,by simp,rfl,rfl,rfl,rfl,rfl,List.mem_cons_self ..⟩
  ·obtain ⟨j,h1,h2,h3,h4,h5,h6,h7,h8⟩:=err_mem r (i + 1) x h
   exact ⟨j,by omega,by rw [List.length_cons];omega,h3,h4,h5,h6,h7,List.mem_cons_of_mem _ h8⟩
theorem err_inc:∀ (r:List ByteArray) (i:Nat),ErInc (errF i r)
 | [],_=>by simp [errF,ErInc]
 | s :: r,i=>by
  rw [errF,ErInc,List.pairwise_cons]
  refine ⟨fun x hx=>?_,err_inc r (i + 1)⟩
  obtain ⟨j,h1,_,_,h4,_⟩:=err_mem r (i + 1) x hx
  rw [h4]
  show ((i:Nat):Int) < j
  omega
theorem err_nd:∀ (r:List ByteArray) (i:Nat),((errF i r).map (·.n)).Nodup
 | [],_=>by simp [errF]
 | s :: r,i=>by
  rw [errF,List.map_cons,List.nodup_cons]
  refine ⟨fun hx=>?_,err_nd r (i + 1)⟩
  obtain ⟨x,hx,e⟩:=List.mem_map.1 hx
  obtain ⟨j,h1,_,h3,_⟩:=err_mem r (i + 1) x hx
  rw [h3] at e
  have e:((j:Nat):Int) = i:=e
  omega
theorem pgOk {s:ByteArray} (h:TxOk s):VoOk (pgV s):=⟨by show (1:Int)≤60∧(60:Int)≤60;decide,by show (10:Int)≤80∧(80:Int)≤80;decide,by simp [pgV],fun x hx=>by
 obtain rfl:=List.mem_singleton.1 hx
 exact ⟨by show inF 1 1 999 = true;decide,h⟩,by simp [pgV]⟩
theorem pgErs {s:ByteArray} {r:List ByteArray} (hr:r.length≤10) (ht:∀ x∈r,TxOk x):ErsOk (pgV s) (errF 1 r):=by
 refine ⟨fun x hx=>?_,err_inc r 1,err_nd r 1,fun x hx=>?_,by rw [errF_len];omega⟩
 ·obtain ⟨j,h1,h2,h3,h4,h5,h6,h7,h8⟩:=err_mem r 1 x hx
  refine ⟨?_, ?_,h5, ?_,ht _ h8,h7⟩
  ·rw [h3];simp only [inF,decide_eq_true_eq];omega
  ·rw [h4];simp only [inF,decide_eq_true_eq];omega
  ·rw [h6];decide
 ·obtain ⟨j,h1,h2,h3,h4,h5,h6,h7,h8⟩:=err_mem r 1 x hx
  exact ⟨(1,s),List.mem_singleton_self _,h6.symm⟩
def pgR:GRel ByteArray:=fun args _ s=>args = [.string s]
theorem pgROk:GOk pgR:=⟨fun args G x y h h'=>by rw [show args = _ from h] at h';simpa [pgR] using h',fun _ _ _ _ _ h=>h⟩
theorem told14:Sound Tryz.prog 14 id toldS:=by
 refine comp14.gsca (Tab.cons 42 _ page42 body42 (Tab.cons 43 _ Read43 body43 (Tab.cons 33 _ Print33 body33 (Tab.nil _)))) (fun args G s h=>?_) (fun args G l h=>?_)
 ·obtain ⟨v,w,rfl,_⟩:=h;simp
 ·obtain ⟨v,w,rfl,hv,hw,hl⟩:=h
  obtain ⟨hl0,hln⟩:=hl.n
  match l,hl0,hv,hw,hl,hln with
  | s0 :: r,_,hv,hw,hl,hln =>
  have hln:r.length≤10:=by simpa using hln
  have hpg:=pgOk (hl.t s0 (List.mem_cons_self ..))
  have hers:=pgErs (s:=s0) hln (fun x hx=>hl.t x (List.mem_cons_of_mem _ hx))
  have hw:SlV erE G w (errF 1 r):=hw
  obtain ⟨va,vn,vc,rfl,hv1,hv2⟩:=id hv
  obtain ⟨wa,wn,wc,rfl,hw1,hw2⟩:=id hw
  obtain rfl:r.length + 1 = vn:=hv1.len
  have hwl:=hw1.len
  rw [errF_len] at hwl
  have hc0:CellsAt G (ab va) (ao va + 0 * 1) [.string s0]:=hv1.el (i:=0) (by simp)
  have hva:=hv1.some (by omega)
  (conv=>whnf)
  repeat' (first | (refine ob ?_ ?_;(first | trivial | omega | (simp only [inR];omega) | exact ble (by rfl) | exact SlR.some ‹_› (by omega));(conv=>whnf)) | (first | (refine ra ‹_› (by rfl) ?_;(conv=>whnf)) | (refine rb ‹_› (by rfl) ?_;(conv=>whnf)) | (refine rc ‹_› (by rfl) ?_;(conv=>whnf)) | (refine rd ‹_› (by rfl) ?_;(conv=>whnf))))
  refine RelP.g pgROk (x:=s0) rfl (Grow.refl _) (fun v G1 hg1 hq=>W.mk ?_)
  obtain ⟨a,c,q,rfl,hV⟩:=hq
  (conv=>whnf)
  refine LoopP.of { α:=Nat,fr:=fun x=>[(0, .v (.slice va (r.length + 1) vc)),(1, .v (.slice wa wn wc)),(5, .c (.ptr 5 0)),(6, .v (I x))],H:=fun x=>[(5, .cells .anon ((voL a c (pgV s0)).map .val) 105)],ok:=fun x _=>x≤r.length + 1,m:=fun x=>r.length + 1 - x }
   0 (HeadP.of [] ⟨rfl,rfl,rfl,rfl,trivial⟩ ⟨rfl,trivial⟩) (Nat.zero_le _) (fun x=>⟨rfl,rfl⟩) (fun (k:Nat) G2 hg2 hk=>W.mk ?_)
  have hk:k≤r.length + 1:=hk
  dsimp only [voL]
  have hV2:=hV.grow hg2
  have hv2:=SlR.grow (G:=G) (G':=G2) (fun _ _ h=>h) hv1 (hg1.trans hg2)
  have hw2:=SlV.grow (hg1.trans hg2) hw
  obtain ⟨f1,f2,f3⟩:=hw1.all
  have f1:=(f1.grow hg1).grow hg2
  (conv=>whnf)
  refine IteP.mk (fun hlt=>W.mk ?_) (fun hge=>W.mk ?_)<;>(conv=>whnf)
  ·refine OblP.mk hw1.some (W.mk ?_)
   (conv=>whnf)
   refine RdP.at f1 f2 (W.mk ?_)
   (conv=>whnf)
   refine OblP.mk f3 (W.mk ?_)
   (conv=>whnf)
   refine OblP.mk rfl (W.mk ?_)
   (conv=>whnf)
   refine OblP.mk (by omega) (W.mk ?_)
   (conv=>whnf)
   refine PubP.mk (fun a1 c1 G4 hg4 h4=>W.mk ?_)
   simp only [Nat.zero_add,List.nil_append] at h4 ⊢
   have he:SlV erE G4 (.slice a1 wn c1) (errF 1 r):=(Row.of_all _ ((errF_len r 1).trans hwl)).pub h4 (by omega)
   (conv=>whnf)
   refine FnvP.mk ⟨_,SoundFn.of body43 (Sound.bare Read43),W.mk ?_⟩
   (conv=>whnf)
   have hlt:k < r.length + 1:=by have hlt:(k:Int) < ((r.length + 1:Nat):Int):=hlt;omega
   have hdk:inF (k:Int) 0 99999 = true:=by simp only [inF,decide_eq_true_eq];omega
   refine RelP.g rdOk (x:=⟨pgV s0,errF 1 r,k⟩) ⟨⟨_,_,rfl,⟨_,_,_,rfl,hV2.grow hg4⟩,he,hpg,hers,_,rfl⟩,hdk⟩ (Grow.refl _) (fun v G5 hg5 hq5=>W.mk ?_)
   obtain ⟨u,rfl,hu⟩:=hq5
   have htx:afT ⟨pgV s0,errF 1 r,k⟩ = (s0 :: r)[k]:=by
    have:=tx_day r 1 k s0 hlt
    rwa [show (((1 + k:Nat):Int) - 1) = (k:Int) by omega] at this
   rw [htx,show afA ⟨pgV s0,errF 1 r,k⟩ = 1 from rfl] at hu
   obtain ⟨ua,un,uc,rfl,hu1,hu2⟩:=id hu
   obtain rfl:1 = un:=hu1.len
   have hua:=hu1.some (by decide)
   have hul:CellsAt G5 (ab ua) (ao ua + 0 * 2) [I 1, .string (s0 :: r)[k]]:=hu1.el (i:=0) (by simp)
   have hvl:CellsAt G5 (ab va) (ao va + k * 1) [.string (s0 :: r)[k]]:=((SlR.grow (G:=G2) (G':=G5) (fun _ _ h=>h) hv2 (hg4.trans hg5)).el hlt)
   generalize (s0 :: r)[k] = sk at hul hvl
   (conv=>whnf)
   refine IteP.mk (fun _=>W.mk ?_) (fun h=>absurd rfl h)
   (conv=>whnf)
   refine IteP.mk (fun _=>W.mk ?_) (fun h=>absurd rfl h)
   (conv=>whnf)
   repeat' (first | (refine ob ?_ ?_;(first | trivial | omega | (simp only [inR];omega) | exact ble (by rfl) | exact SlR.some ‹_› (by omega));(conv=>whnf)) | (first | (refine ra ‹_› (by rfl) ?_;(conv=>whnf)) | (refine rb ‹_› (by rfl) ?_;(conv=>whnf)) | (refine rc ‹_› (by rfl) ?_;(conv=>whnf)) | (refine rd ‹_› (by rfl) ?_;(conv=>whnf))))
   have hne:=ne99 sk sk 1 1
   rw [show (!decide ((1:Int) = 1∧sk = sk)) = false by simp] at hne
   refine PurP.of _ hne (W.mk ?_)
   (conv=>whnf)
   refine ForkP.mk (fun h=>by cases h) (fun _=>W.mk ?_)
   (conv=>whnf)
   repeat' (refine ob ?_ ?_;(first | trivial | omega | (simp only [inR];omega) | exact ble (by rfl) | exact SlR.some ‹_› (by omega));(conv=>whnf))
   exact RoundP.of (k + 1) (HeadP.of [] ⟨rfl,rfl,rfl,rfl,trivial⟩ ⟨rfl,trivial⟩) hlt (by simp only;omega)
  ·refine RelP.g prOk (x:=(pgV s0,[])) ⟨_,_,rfl,⟨_,_,_,rfl,hV2⟩,SlV.nil,hpg,ersNil,_,rfl⟩ (Grow.refl _) (fun v G3 hg3 hq=>W.mk ?_)
   obtain ⟨u,rfl,hu⟩:=hq
   obtain ⟨ua,un,uc,rfl,hu1,hu2⟩:=id hu
   obtain rfl:1 = un:=hu1.len
   have f1:=f1.grow hg3
   (conv=>whnf)
   refine OblP.mk hw1.some (W.mk ?_)
   (conv=>whnf)
   refine RdP.at f1 f2 (W.mk ?_)
   (conv=>whnf)
   refine OblP.mk f3 (W.mk ?_)
   (conv=>whnf)
   refine OblP.mk rfl (W.mk ?_)
   (conv=>whnf)
   refine OblP.mk (by omega) (W.mk ?_)
   (conv=>whnf)
   refine PubP.mk (fun a1 c1 G4 hg4 h4=>W.mk ?_)
   simp only [Nat.zero_add,List.nil_append] at h4 ⊢
   have he:SlV erE G4 (.slice a1 wn c1) (errF 1 r):=(Row.of_all _ ((errF_len r 1).trans hwl)).pub h4 (by omega)
   (conv=>whnf)
   refine FnvP.mk ⟨_,SoundFn.of body33 (Sound.bare Print33),W.mk ?_⟩
   (conv=>whnf)
   refine RelP.g prOk (x:=(pgV s0,errF 1 r)) ⟨_,_,rfl,⟨_,_,_,rfl,(hV2.grow hg3).grow hg4⟩,he,hpg,hers,_,rfl⟩ (Grow.refl _) (fun v G5 hg5 hq5=>W.mk ?_)
   obtain ⟨u2,rfl,hw5⟩:=hq5
   obtain ⟨ya,yn,yc,rfl,hy1,hy2⟩:=id hw5
   obtain rfl:1 = yn:=hy1.len
   have hua:=hu1.some (by decide)
   have hya:=hy1.some (by decide)
   have hpx:plF (prX (pgV s0,errF 1 r)) = plF (prX (pgV s0,[])):=by
    have h1:issF (errF 1 r) 0 = issF [] 0:=by
     cases r with
     | nil=>rfl
     | cons x r=>rw [errF,issF,List.takeWhile_cons,decide_eq_false (by dsimp only;omega)];rfl
    show (_,_,_,_) = (_,_,_,_)
    unfold prX prAf afT
    dsimp only
    rw [h1];rfl
   rw [hpx] at hy1
   generalize plF (prX (pgV s0,[])) = pl at hu1 hy1
   obtain ⟨l1,l2,l3,l4⟩:=pl
   have hul:CellsAt G5 (ab ua) (ao ua + 0 * 4) [I l1,I l2,I l3,I l4]:=((SlR.grow (G:=G3) (G':=G5) (fun _ _ h=>h) hu1 (hg4.trans hg5)).el (i:=0) (by simp))
   have hyl:CellsAt G5 (ab ya) (ao ya + 0 * 4) [I l1,I l2,I l3,I l4]:=hy1.el (i:=0) (by simp)
   (conv=>whnf)
   refine IteP.mk (fun _=>W.mk ?_) (fun h=>absurd rfl h)
   (conv=>whnf)
   refine IteP.mk (fun _=>W.mk ?_) (fun h=>absurd rfl h)
   (conv=>whnf)
   refine IteP.mk (fun _=>W.mk ?_) (fun h=>absurd rfl h)
   (conv=>whnf)
   refine IteP.mk (fun _=>W.mk ?_) (fun h=>absurd rfl h)
   (conv=>whnf)
   repeat' (first | (refine ob ?_ ?_;(first | trivial | omega | (simp only [inR];omega) | exact ble (by rfl) | exact SlR.some ‹_› (by omega));(conv=>whnf)) | (first | (refine ra ‹_› (by rfl) ?_;(conv=>whnf)) | (refine rb ‹_› (by rfl) ?_;(conv=>whnf)) | (refine rc ‹_› (by rfl) ?_;(conv=>whnf)) | (refine rd ‹_› (by rfl) ?_;(conv=>whnf))))
   have hqe:=eq107 l1 l2 l3 l4 l1 l2 l3 l4
   rw [show (decide (l1 = l1∧l2 = l2∧l3 = l3∧l4 = l4)) = true by simp] at hqe
   refine PurP.of _ hqe (W.mk ?_)
   (conv=>whnf)
   refine ForkP.mk (fun _=>W.mk ?_) (fun h=>by cases h)
   (conv=>whnf)
   exact FinP.mk rfl
end Go.Proofs.YtefnikpoimaiiaaGreat
