/- Layer 3 (plain): what is shown; protected words stay. Layer 3: the law of DraftKept. Layer 3: items compared; shown. Layer 3 (plain): what holds of every sheet; a change that is undone at once; when all changes are undone. Layer 3 (plain): a change, as it is seen; two changes that do not touch. Layer 3: steps copied out of a row that is lent; the law of DraftAtOnce. Layer 3: steps copied into an own row; plain. Layer 3, plain: the steps of a style as a run over what is visible. Layer 3: rules: how they are read; whether they are right. Layer 3: where a rule finds its texts. Layer 3: the reference: whether rules are right. Layer 3: Style. Layer 3: the reference: whether a rule finds its texts. Layer 3: the reference: Style. Layer 3: drawn rules, opened. Layer 3, plain: what the steps of a style are: all can be done; one rule makes few; its texts are nowhere behind it. Layer 3: rules, copied for the program. Layer 3: the law of DraftStyles. Layer 3: the law of DraftStyled. -/
import Derived.Test.YtfppbjfbghaclaaGreatML
import Derived.Test.YtfppbjfbghaclaaGreatMI
import Derived.Test.YtfppbjfbghaclaaGreatMD
set_option linter.unusedSimpArgs false
set_option linter.unusedVariables false
namespace Go.Proofs.YtfppbjfbghaclaaGreat
open Go.Pal Go.RowKit
set_option maxRecDepth 100000
theorem visN (l:List It):∀ n,n≤l.length→(placesN l n).map (fun i=>l.getD i default) = (l.take n).filter (fun y=>y.g = 0)
 | 0,_=>by simp [placesN]
 | n + 1,h=>by
  have ih:=visN l n (by omega)
  have h1:n < l.length:=by omega
  have hgd:l.getD n default = l[n]:=by simp [h1]
  rw [placesN_succ,List.take_add_one,List.getElem?_eq_getElem h1,List.filter_append,hgd]
  split
  ·rename_i hg
   rw [List.map_append,ih]
   congr 1
   show [l.getD n default] = _
   rw [hgd,Option.toList_some,List.filter_cons,if_pos (by simpa using hg)];rfl
  ·rename_i hg
   rw [ih]
   simp [hg]
def visF (l:List It):List It:=l.filter fun y=>y.g = 0
theorem places_vis (l:List It):(placesF l).map (fun i=>l.getD i default) = visF l:=by
 rw [placesF,visN l l.length (Nat.le_refl _),List.take_length];rfl
theorem shown_vis (S:Sh):shownF S = (visF S.its).map (·.vi):=by rw [← places_vis,shownF,List.map_map];rfl
theorem places_len (l:List It):(placesF l).length = (visF l).length:=by rw [← places_vis,List.length_map]
theorem posL_begin (d:Dr):PosL (beginS d):=⟨Int.le_refl _,fun n hn=>by cases hn⟩
theorem endF_ok {d:Dr} {steps:List Sp} {S:Sh} (h:endF d steps = .ok S):validF d = true∧steps.length≤80∧playF d (beginS d) steps 0 = .inr S:=by
 unfold endF at h
 split at h
 ·cases h
 ·rename_i hv
  split at h
  ·cases h
  ·split at h
   ·cases h
   ·rename_i e;cases h;exact ⟨by simpa using hv,by omega,e⟩
end Go.Proofs.YtfppbjfbghaclaaGreat

namespace Go.Proofs.YtfppbjfbghaclaaGreat
open Go.Pal Go.RowKit
set_option maxRecDepth 100000
theorem pur_eqT (a b:ByteArray):∀ w,((POp.bin .eql 9).sem [.string a, .string b]).run Tryz.prog w = .ok (.bool (decide (a = b))) w:=fun w=>by
 have e1:(POp.bin .eql 9).sem [.string a, .string b] = (do eqGuard .eql 9 (.tmp 0) (.tmp 0) (.string a) (.string b);binOp .eql 9 (.string a) (.string b)):=rfl
 have e2:(a.toList == b.toList) = decide (a = b):=by
  rw [Bool.eq_iff_iff]
  simp only [ByteArray.toList_eq,beq_iff_eq,decide_eq_true_eq]
  exact ⟨fun h=>by cases a;cases b;simp [Array.toList_inj] at h;rw [h],fun h=>by rw [h]⟩
 rw [e1,eqGuard_at_string,binOp_string_eql,e2]
 rfl
abbrev lawT (T:Tab Tryz.prog):Tab Tryz.prog:=Tab.cons 15 _ awake15 body15 (Tab.cons 25 _ ready25 body25 (Tab.cons 17 _ draft17 body17 (Tab.cons 18 _ steps18 body18 (Tab.cons 26 _ play26 body26 T))))
end Go.Proofs.YtfppbjfbghaclaaGreat

namespace Go.Proofs.YtfppbjfbghaclaaGreat
open Go.Pal Go.RowKit
set_option maxRecDepth 100000
instance:DecidableEq Vi:=fun a b=>decidable_of_iff (a.t = b.t∧a.o = b.o∧a.m = b.m) (by cases a;cases b;simp)
theorem eqSII_run {P : Program} {t s e : TypeId} (hu : (match P.underlying t with | some (.struct _) => true | _ => false) = true) (hf : (P.fieldsOf t).toList.map (fun f => (f.type, f.offset)) = [(s, 0), (e, 1), (e, 2)]) (hn : (P.fieldsOf t).toList.all (fun f => f.name != "_") = true) (hse : P.underlying s = some .string) (he : P.underlying e = some (.int .i64)) (hzs : szT P s = some 1) (hz : szT P e = some 1)
  (hs:P.stoodInHeld t = false) (w:World) (a a':ByteArray) (b c b' c':Int):(Op.equalIn 10000 t (.agg #[.string a,I b,I c]) (.agg #[.string a',I b',I c'])).run P w = .ok (decide (a = a'∧b = b'∧c = c')) w:=by
 rw [show (10000:Nat) = 9999 + 1 from rfl,run_equalIn_struct w 9999 t _ _ (struct_of hu) hs]
 generalize (P.fieldsOf t).toList = fs at hf hn
 have hag:aggT P e = some false:=by simp [aggT,he]
 have hags:aggT P s = some false:=by simp [aggT,hse]
 have hsz:=run_sizeOf' (P:=P) (W:=w) (t:=e) (n:=1) hz
 have hgg:=run_isAgg' (P:=P) (W:=w) (t:=e) (g:=false) hag
 have hszs:=run_sizeOf' (P:=P) (W:=w) (t:=s) (n:=1) hzs
 have hggs:=run_isAgg' (P:=P) (W:=w) (t:=s) (g:=false) hags
 obtain ⟨f1,f2,f3,rfl⟩:∃ f1 f2 f3,fs = [f1,f2,f3]:=by
  have hl:=congrArg List.length hf
  simp only [List.length_map,List.length_cons,List.length_nil] at hl
  match fs,hl with
  | [f1,f2,f3],_=>exact ⟨f1,f2,f3,rfl⟩
 simp only [List.map_cons,List.map_nil,List.cons.injEq,Prod.mk.injEq,and_true] at hf
 obtain ⟨⟨t1,o1⟩,⟨t2,o2⟩,t3,o3⟩:=hf
 simp only [List.all_cons,List.all_nil,Bool.and_true,Bool.and_eq_true,bne_iff_ne,ne_eq] at hn
 have he1:=fun a b=>run_equalIn_int (P:=P) w 9998 e .i64 .i64 a b he
 have hs1:=fun a b=>run_equalIn_str (P:=P) w 9998 s a b hse
 simp only [Op.eqFields,t1,o1,t2,o2,t3,o3,hn.1,hn.2.1,hn.2.2,ne_eq,not_false_eq_true,if_true]
 simp [part,hsz,hgg,hszs,hggs,he1,hs1,Result.andThen]
 by_cases h1:a = a'
 ·subst h1
  by_cases h2:b = b'
  ·subst h2
   by_cases h3:c = c'
   ·subst h3;simp [he1]
   ·simp [he1,h3]
  ·simp [he1,h2]
 ·simp [h1]
theorem pur_neItem (x y:Vi):∀ w,((POp.bin .neq 57).sem [.agg (viE.f x).toArray, .agg (viE.f y).toArray]).run Tryz.prog w = .ok (.bool (!decide (x = y))) w:=fun w=>by
 have e1:(POp.bin .neq 57).sem [.agg (viE.f x).toArray, .agg (viE.f y).toArray] = (do eqGuard .neq 57 (.tmp 0) (.tmp 0) (.agg #[.string x.t,I x.o,I x.m]) (.agg #[.string y.t,I y.o,I y.m]);binOp .neq 57 (.agg #[.string x.t,I x.o,I x.m]) (.agg #[.string y.t,I y.o,I y.m])):=rfl
 have e2:decide (x = y) = decide (x.t = y.t∧x.o = y.o∧x.m = y.m):=by
  apply decide_eq_decide.2
  cases x;cases y;simp
 rw [e1,e2]
 have hr:=eqSII_run (P:=Tryz.prog) (t:=57) (s:=9) (e:=3) (by kernel_rfl) (by kernel_rfl) (by kernel_rfl) und9 (by kernel_rfl) (by kernel_rfl) (by kernel_rfl) (by kernel_rfl) w x.t y.t x.o x.m y.o y.m
 have hg:Tryz.prog.eqGuardType Tryz.prog.depth 57 = false:=by kernel_rfl
 simp [run_eqGuard_agg w .neq 57 _ _ _ _ hg,run_neq_struct,hr,Result.andThen]
end Go.Proofs.YtfppbjfbghaclaaGreat

namespace Go.Proofs.YtfppbjfbghaclaaGreat
open Go.Pal Go.RowKit
set_option maxRecDepth 100000
theorem playF_app {d:Dr}:∀ (xs ys:List Sp) (S:Sh) (i:Nat),playF d S (xs++ys) i = match playF d S xs i with
  | .inl k=>.inl k
  | .inr S'=>playF d S' ys (i + xs.length)
 | [],ys,S,i=>rfl
 | x :: xs,ys,S,i=>by
  show (match stepF d S x with
   | some S'=>playF d S' (xs++ys) (i + 1)
   | none=>.inl i) = match (match stepF d S x with
   | some S'=>playF d S' xs (i + 1)
   | none=>.inl i) with
   | .inl k=>.inl k
   | .inr S'=>playF d S' ys (i + (xs.length + 1))
  cases stepF d S x with
  | none=>rfl
  | some S1 =>
   have h:=playF_app (d:=d) xs ys S1 (i + 1)
   rw [show i + 1 + xs.length = i + (xs.length + 1) by omega] at h
   exact h
def It.key (y:It):ByteArray × Int × Int:=(y.t,y.o,y.m)
def baseF (l:List It):List (ByteArray × Int × Int):=(l.map It.key).filter fun k=>k.2.2 = 0
structure Rch (d:Dr) (S:Sh):Prop where
 wf:Inv d.ws.length S
 pos:PosL S
 le:∀ n∈S.live,n≤S.ch
 inc:S.live.Pairwise (· < ·)
 gl:∀ y∈S.its,y.g = 0∨y.g∈S.live
 ml:∀ y∈S.its,y.m = 0∨y.m∈S.live
 base:baseF S.its = (List.range d.ws.length).map fun (i:Nat)=>((d.ws.getD i default).t,(i:Int),0)
theorem rch_begin (d:Dr):Rch d (beginS d):=by
 refine ⟨inv_begin d,posL_begin d,fun n hn=>(by cases hn),List.Pairwise.nil,fun y hy=>?_,fun y hy=>?_, ?_⟩
 ·obtain ⟨i,hi,rfl⟩:=List.mem_map.1 hy;exact .inl rfl
 ·obtain ⟨i,hi,rfl⟩:=List.mem_map.1 hy;exact .inl rfl
 ·show ((List.map _ _).map It.key).filter _ = _
  rw [List.map_map,List.filter_eq_self.2]
  ·rfl
  ·intro k hk
   obtain ⟨i,hi,rfl⟩:=List.mem_map.1 hk
   rfl
theorem shown_all {d:Dr} {S:Sh} (h:Rch d S) (hl:S.live = []):shownF S = (List.range d.ws.length).map fun (i:Nat)=>⟨(d.ws.getD i default).t,(i:Int),0⟩:=by
 have hg:∀ y∈S.its,y.g = 0:=fun y hy=>by
  rcases h.gl y hy with h1 | h1
  ·exact h1
  ·rw [hl] at h1;cases h1
 have hm:∀ y∈S.its,y.m = 0:=fun y hy=>by
  rcases h.ml y hy with h1 | h1
  ·exact h1
  ·rw [hl] at h1;cases h1
 have hv:visF S.its = S.its:=List.filter_eq_self.2 fun y hy=>by simpa using hg y hy
 have hb:=h.base
 rw [baseF,List.filter_eq_self.2 (fun k hk=>by
  obtain ⟨y,hy,rfl⟩:=List.mem_map.1 hk
  have:=hm y hy
  exact decide_eq_true this)] at hb
 rw [shown_vis,hv]
 have e1:S.its.map (·.vi) = (S.its.map It.key).map fun k=>(⟨k.1,k.2.1,k.2.2⟩:Vi):=by rw [List.map_map];rfl
 rw [e1,hb,List.map_map];rfl
end Go.Proofs.YtfppbjfbghaclaaGreat

namespace Go.Proofs.YtfppbjfbghaclaaGreat
open Go.Pal Go.RowKit
set_option maxRecDepth 100000
theorem placesF_lt (l:List It):(placesF l).Pairwise (· < ·):=List.pairwise_lt_range.filter _
theorem placesN_filter (l:List It) {m:Nat} (h:m≤l.length):placesN l m = (placesF l).filter fun i=>decide (i < m):=by
 have:∀ k,placesN l m = (placesN l (m + k)).filter fun i=>decide (i < m):=by
  intro k
  induction k with
  | zero =>
   rw [Nat.add_zero]
   exact (List.filter_eq_self.2 fun i hi=>decide_eq_true (placesN_lt hi)).symm
  | succ k ih =>
   rw [← Nat.add_assoc,placesN_succ]
   split
   ·rw [List.filter_append, ← ih]
    have:([m + k].filter fun i=>decide (i < m)) = []:=by simp
    rw [this,List.append_nil]
   ·exact ih
 have h2:=this (l.length - m)
 rw [show m + (l.length - m) = l.length by omega] at h2
 exact h2
theorem filter_lt_take:∀ {P:List Nat} {a:Nat},P.Pairwise (· < ·)→(h:a < P.length)→P.filter (fun i=>decide (i < P[a])) = P.take a
 | [],a,_,h=>absurd h (Nat.not_lt_zero a)
 | x :: r,0,hp,h=>by
  obtain ⟨h1,_⟩:=List.pairwise_cons.1 hp
  rw [List.take_zero,List.filter_eq_nil_iff]
  intro i hi
  simp only [List.getElem_cons_zero,decide_eq_true_eq]
  rcases List.mem_cons.1 hi with rfl | hi
  ·omega
  ·have:=h1 i hi;omega
 | x :: r,a + 1,hp,h=>by
  obtain ⟨h1,h2⟩:=List.pairwise_cons.1 hp
  have hr:a < r.length:=by simpa using h
  have hx:x < r[a]:=h1 _ (List.getElem_mem hr)
  rw [List.take_succ_cons,List.filter_cons,List.getElem_cons_succ,if_pos (decide_eq_true hx),filter_lt_take h2 hr]
theorem filter_le_take:∀ {P:List Nat} {a:Nat},P.Pairwise (· < ·)→(h:a < P.length)→P.filter (fun i=>decide (i < P[a] + 1)) = P.take (a + 1)
 | [],a,_,h=>absurd h (Nat.not_lt_zero a)
 | x :: r,0,hp,h=>by
  obtain ⟨h1,_⟩:=List.pairwise_cons.1 hp
  rw [List.filter_cons,if_pos (by simp),List.filter_eq_nil_iff.2]
  ·rfl
  ·intro i hi
   have:=h1 i hi
   simp only [List.getElem_cons_zero,decide_eq_true_eq];omega
 | x :: r,a + 1,hp,h=>by
  obtain ⟨h1,h2⟩:=List.pairwise_cons.1 hp
  have hr:a < r.length:=by simpa using h
  have hx:x < r[a]:=h1 _ (List.getElem_mem hr)
  rw [List.take_succ_cons,List.filter_cons,List.getElem_cons_succ,if_pos (decide_eq_true (by omega)),filter_le_take h2 hr]
theorem goneF_at (n:Int) (i:Nat):∀ (ps:List Nat) (l:List It),i ∉ ps→(goneF l n ps).getD i default = l.getD i default
 | [],l,_=>rfl
 | p :: ps,l,h=>by
  have h2:=goneF_at n i ps (l.set p { l.getD p default with g:=n }) fun h1=>h (by simp [h1])
  have e:goneF l n (p :: ps) = goneF (l.set p { l.getD p default with g:=n }) n ps:=rfl
  rw [e,h2,List.getD_eq_getElem?_getD,List.getElem?_set_ne (fun e=>h (by simp [e])),List.getD_eq_getElem?_getD]
theorem goneF_in (n:Int) (i:Nat):∀ (ps:List Nat) (l:List It),i∈ps→i < l.length→((goneF l n ps).getD i default).g = n
 | [],l,h,_=>by cases h
 | p :: ps,l,h,hi=>by
  have e:goneF l n (p :: ps) = goneF (l.set p { l.getD p default with g:=n }) n ps:=rfl
  rw [e]
  by_cases hm:i∈ps
  ·exact goneF_in n i ps _ hm (by rw [List.length_set];exact hi)
  ·rw [goneF_at n i ps _ hm]
   have:i = p:=by
    rcases List.mem_cons.1 h with h | h
    ·exact h
    ·exact absurd h hm
   subst this
   simp [List.getD_eq_getElem?_getD,hi]
theorem places_gone {l:List It} {n:Int} (hn:n≠0) (cs:List Nat):placesF (goneF l n cs) = (placesF l).filter fun i=>!decide (i∈cs):=by
 rw [placesF,placesN,goneF_len,placesF,placesN,List.filter_filter]
 apply List.filter_congr
 intro i hi
 have hi:=List.mem_range.1 hi
 by_cases hm:i∈cs
 ·rw [decide_eq_false (by rw [goneF_in n i _ _ hm hi];exact hn),decide_eq_true hm];rfl
 ·rw [goneF_at n i _ _ hm,decide_eq_false hm];rfl
theorem vis_gone {l:List It} {n:Int} {a c:Nat} (hn:n≠0):visF (goneF l n (((placesF l).drop a).take c)) = (visF l).take a++(visF l).drop (a + c):=by
 have hnd:(placesF l).Nodup:=by rw [List.nodup_iff_pairwise_ne];exact (placesF_lt l).imp fun h=>by omega
 have hcs:∀ p∈((placesF l).drop a).take c,p < l.length:=fun p hp=>placesN_lt (List.mem_of_mem_drop (List.mem_of_mem_take hp))
 have hpl:=places_gone (l:=l) (n:=n) hn (((placesF l).drop a).take c)
 have hsplit:(placesF l).filter (fun i=>!decide (i∈((placesF l).drop a).take c)) = (placesF l).take a++(placesF l).drop (a + c):=by
  have e:placesF l = (placesF l).take a++(((placesF l).drop a).take c++(placesF l).drop (a + c)):=by
   rw [← List.drop_drop,List.take_append_drop,List.take_append_drop]
  have hnd2:=hnd
  rw [e] at hnd2
  obtain ⟨_,n2,n3⟩:=List.nodup_append.1 hnd2
  obtain ⟨_,_,n6⟩:=List.nodup_append.1 n2
  generalize hA:(placesF l).take a = A at *
  generalize hB:((placesF l).drop a).take c = B at *
  generalize hC:(placesF l).drop (a + c) = C at *
  rw [e,List.filter_append,List.filter_append]
  have f1:A.filter (fun i=>!decide (i∈B)) = A:=List.filter_eq_self.2 fun i hi=>by
   have:i ∉ B:=fun hb=>n3 i hi i (List.mem_append_left _ hb) rfl
   simp [this]
  have f2:B.filter (fun i=>!decide (i∈B)) = []:=List.filter_eq_nil_iff.2 fun i hi=>by simp [hi]
  have f3:C.filter (fun i=>!decide (i∈B)) = C:=List.filter_eq_self.2 fun i hi=>by
   have:i ∉ B:=fun hb=>n6 i hb i hi rfl
   simp [this]
  rw [f1,f2,f3,List.nil_append]
 have hout:∀ i∈(placesF l).take a++(placesF l).drop (a + c),i ∉ ((placesF l).drop a).take c:=fun i hi=>by
  rw [← hsplit] at hi
  simpa using (List.mem_filter.1 hi).2
 rw [← places_vis,hpl,hsplit,List.map_congr_left fun i hi=>goneF_at n i _ _ (hout i hi),List.map_append,List.map_take,List.map_drop,places_vis]
theorem visF_app (l r:List It):visF (l++r) = visF l++visF r:=List.filter_append ..
theorem take_gone (n:Int) (m:Nat):∀ (ps:List Nat) (l:List It),(∀ p∈ps,m≤p)→(goneF l n ps).take m = l.take m
 | [],l,_=>rfl
 | p :: ps,l,h=>by
  have e:goneF l n (p :: ps) = goneF (l.set p { l.getD p default with g:=n }) n ps:=rfl
  rw [e,take_gone n m ps _ fun q hq=>h q (by simp [hq]),List.take_set_of_le (h p (by simp))]
theorem vis_change {d:Dr} {S S1:Sh} {x:Sp} (h0:0≤S.ch) (hc:changeF d S x = some S1):visF S1.its = (visF S.its).take x.a.toNat++putF (S.ch + 1) x.put++(visF S.its).drop (x.a.toNat + x.c.toNat):=by
 unfold changeF at hc
 split at hc
 case isFalse=>cases hc
 rename_i hf
 cases hc
 obtain ⟨g1,g2,g3,g4,g5⟩:=fine_iff.1 hf.1
 have g2':0≤x.c∧x.c≤4:=by simpa [inF] using g2
 show visF (insF (goneF S.its (S.ch + 1) (cutF S.its x)) (placeF S.its x) (putF (S.ch + 1) x.put)) = _
 have hput:visF (putF (S.ch + 1) x.put) = putF (S.ch + 1) x.put:=List.filter_eq_self.2 fun y hy=>by
  obtain ⟨t,_,rfl⟩:=List.mem_map.1 hy;rfl
 have hall:visF (goneF S.its (S.ch + 1) (cutF S.its x)) = (visF S.its).take x.a.toNat++(visF S.its).drop (x.a.toNat + x.c.toNat):=vis_gone (by omega)
 have htake:visF ((goneF S.its (S.ch + 1) (cutF S.its x)).take (placeF S.its x)) = (visF S.its).take x.a.toNat:=by
  have fin:∀ {m:Nat},m≤S.its.length→(placesF S.its).filter (fun i=>decide (i < m)) = (placesF S.its).take x.a.toNat→visF (S.its.take m) = (visF S.its).take x.a.toNat:=fun {m} hm he=>by
   have:visF (S.its.take m) = (placesN S.its m).map (fun i=>S.its.getD i default):=(visN S.its m hm).symm
   rw [this,placesN_filter S.its hm,he,List.map_take,places_vis]
  by_cases hc0:0 < x.c
  ·have ha:x.a.toNat < (placesF S.its).length:=by omega
   have hpf:placeF S.its x = (placesF S.its)[x.a.toNat]:=by
    unfold placeF
    rw [if_pos hc0,List.getD_eq_getElem?_getD,List.getElem?_eq_getElem ha];rfl
   rw [hpf,take_gone]
   ·exact fin (Nat.le_of_lt (placesN_lt (List.getElem_mem ha))) (filter_lt_take (placesF_lt _) ha)
   ·intro p hp
    have hp:=List.mem_of_mem_take hp
    obtain ⟨k,hk,rfl⟩:=List.mem_iff_getElem.1 hp
    rw [List.getElem_drop]
    have hk:k < (placesF S.its).length - x.a.toNat:=by simpa using hk
    by_cases h00:k = 0
    ·subst h00;exact Nat.le_refl _
    ·exact Nat.le_of_lt (List.pairwise_iff_getElem.1 (placesF_lt S.its) _ _ ha (by omega) (by omega))
  ·have hcut:cutF S.its x = []:=by rw [cutF,show x.c.toNat = 0 by omega];rfl
   rw [hcut]
   show visF (S.its.take (placeF S.its x)) = _
   by_cases ha0:0 < x.a
   ·have ha:x.a.toNat - 1 < (placesF S.its).length:=by omega
    have hpf:placeF S.its x = (placesF S.its)[x.a.toNat - 1] + 1:=by
     unfold placeF
     rw [if_neg hc0,if_pos ha0,List.getD_eq_getElem?_getD,List.getElem?_eq_getElem ha];rfl
    rw [hpf]
    refine fin (placesN_lt (List.getElem_mem ha)) ?_
    rw [filter_le_take (placesF_lt _) ha,show x.a.toNat - 1 + 1 = x.a.toNat by omega]
   ·have hpf:placeF S.its x = 0:=by unfold placeF;rw [if_neg hc0,if_neg ha0]
    rw [hpf,show x.a.toNat = 0 by omega];rfl
 have hdrop:visF ((goneF S.its (S.ch + 1) (cutF S.its x)).drop (placeF S.its x)) = (visF S.its).drop (x.a.toNat + x.c.toNat):=by
  have:=hall
  rw [← List.take_append_drop (placeF S.its x) (goneF S.its (S.ch + 1) (cutF S.its x)),visF_app,htake] at this
  exact List.append_cancel_left this
 rw [insF,visF_app,visF_app,htake,hdrop,hput]
def canV (d:Dr) (v:List It) (x:Sp):Prop:=0≤x.a∧(0≤x.c∧x.c≤4)∧x.a + x.c≤v.length∧(inF x.put.length 0 4 && x.put.all textF) = true∧0 < x.c + x.put.length∧∀ y∈(v.drop x.a.toNat).take x.c.toNat,protF d y = false
theorem change_can {d:Dr} {S:Sh} {x:Sp}:(∃ S1,changeF d S x = some S1)↔canV d (visF S.its) x:=by
 have hcut:((visF S.its).drop x.a.toNat).take x.c.toNat = (cutF S.its x).map fun i=>S.its.getD i default:=by rw [cutF,List.map_take,List.map_drop,places_vis]
 have hl:=places_len S.its
 have e:(∃ S1,changeF d S x = some S1)↔(fineF S.its x = true∧(cutF S.its x).all (fun i=>!protF d (S.its.getD i default)) = true):=by
  unfold changeF
  split
  ·exact ⟨fun _=>‹_›,fun _=>⟨_,rfl⟩⟩
  ·exact ⟨fun ⟨_,h⟩=>(by cases h),fun h=>absurd h ‹_›⟩
 rw [e,fine_iff,canV,hcut]
 constructor
 ·rintro ⟨⟨g1,g2,g3,g4,g5⟩,h2⟩
  refine ⟨g1,by simpa [inF] using g2,by omega,g4,g5,fun y hy=>?_⟩
  obtain ⟨i,hi,rfl⟩:=List.mem_map.1 hy
  simpa using List.all_eq_true.1 h2 i hi
 ·rintro ⟨g1,g2,g3,g4,g5,h2⟩
  refine ⟨⟨g1,by simpa [inF] using g2,by omega,g4,g5⟩,List.all_eq_true.2 fun i hi=>?_⟩
  rw [h2 _ (List.mem_map.2 ⟨i,hi,rfl⟩)];rfl
theorem putF_len (n:Int) (put:List ByteArray):(putF n put).length = put.length:=by rw [putF,List.length_map]
theorem putF_t (n:Int) (put:List ByteArray):(putF n put).map (·.t) = put:=by rw [putF,List.map_map];simp [Function.comp_def]
theorem apart_list {α:Type} (V P1 P2:List α) {n1 m1 n2 m2:Nat} (h:n1 + m1 < n2) (hb:n2 + m2≤V.length) :
  (V.take n1++P1++V.drop (n1 + m1)).take (n1 + P1.length + (n2 - (n1 + m1)))++P2++(V.take n1++P1++V.drop (n1 + m1)).drop (n1 + P1.length + (n2 - (n1 + m1)) + m2) =
   (V.take n2++P2++V.drop (n2 + m2)).take n1++P1++(V.take n2++P2++V.drop (n2 + m2)).drop (n1 + m1):=by
 have l1:(V.take n1).length = n1:=by rw [List.length_take];omega
 have l2:(V.take n2).length = n2:=by rw [List.length_take];omega
 have e1:(V.take n1++P1++V.drop (n1 + m1)).take (n1 + P1.length + (n2 - (n1 + m1))) = V.take n1++P1++(V.drop (n1 + m1)).take (n2 - (n1 + m1)):=by
  rw [List.take_append,List.take_of_length_le (by rw [List.length_append,l1];omega),List.length_append,l1,show n1 + P1.length + (n2 - (n1 + m1)) - (n1 + P1.length) = n2 - (n1 + m1) by omega]
 have e2:(V.take n1++P1++V.drop (n1 + m1)).drop (n1 + P1.length + (n2 - (n1 + m1)) + m2) = V.drop (n2 + m2):=by
  rw [List.drop_append,List.drop_of_length_le (by rw [List.length_append,l1];omega),List.nil_append,List.drop_drop,List.length_append,l1,show n1 + m1 + (n1 + P1.length + (n2 - (n1 + m1)) + m2 - (n1 + P1.length)) = n2 + m2 by omega]
 have e3:(V.take n2++P2++V.drop (n2 + m2)).take n1 = V.take n1:=by
  rw [List.append_assoc,List.take_append_of_le_length (by rw [l2];omega),List.take_take,Nat.min_eq_left (by omega)]
 have e4:(V.take n2++P2++V.drop (n2 + m2)).drop (n1 + m1) = (V.drop (n1 + m1)).take (n2 - (n1 + m1))++P2++V.drop (n2 + m2):=by
  rw [List.append_assoc,List.drop_append_of_le_length (by rw [l2];omega),List.drop_take,List.append_assoc]
 rw [e1,e2,e3,e4]
 simp only [List.append_assoc]
theorem apart {d:Dr} (hv:validF d = true) {S:Sh} (h0:0≤S.ch) {one two:Sp} (h1:0≤one.a) (h2:0≤one.c) (h3:one.a + one.c < two.a) :
  (∃ A B C D,changeF d S one = some A∧changeF d A { two with a:=two.a + (one.put.length - one.c) } = some B∧changeF d S two = some C∧changeF d C one = some D∧(visF B.its).map (·.t) = (visF D.its).map (·.t)) ∨
  ((∀ A,changeF d S one = some A→changeF d A { two with a:=two.a + (one.put.length - one.c) } = none)∧∀ C,changeF d S two = some C→changeF d C one = none):=by
 obtain ⟨v,hvv⟩:∃ v,v = visF S.its:=⟨_,rfl⟩
 have cA:∀ A,changeF d S one = some A→A.ch = S.ch + 1∧visF A.its = v.take one.a.toNat++putF (S.ch + 1) one.put++v.drop (one.a.toNat + one.c.toNat):=fun A hA=>by
  refine ⟨?_,by rw [hvv];exact vis_change h0 hA⟩
  unfold changeF at hA
  split at hA<;>cases hA;rfl
 have cC:∀ C,changeF d S two = some C→C.ch = S.ch + 1∧visF C.its = v.take two.a.toNat++putF (S.ch + 1) two.put++v.drop (two.a.toNat + two.c.toNat):=fun C hC=>by
  refine ⟨?_,by rw [hvv];exact vis_change h0 hC⟩
  unfold changeF at hC
  split at hC<;>cases hC;rfl
 -- the second change behind the first one is as it is ahead of it
 have iff1:∀ A,changeF d S one = some A→((∃ B,changeF d A { two with a:=two.a + (one.put.length - one.c) } = some B)↔canV d v two):=fun A hA=>by
  obtain ⟨_,e⟩:=cA A hA
  have hcan:=(change_can (d:=d) (S:=S) (x:=one)).1 ⟨A,hA⟩
  rw [← hvv] at hcan
  obtain ⟨q1,q2,q3,q4,q5,q6⟩:=hcan
  have hlen:(visF A.its).length + one.c.toNat = v.length + one.put.length:=by
   rw [e]
   simp only [List.length_append,List.length_take,List.length_drop,putF_len]
   omega
  rw [change_can]
  have hdr:((visF A.its).drop (two.a + ((one.put.length:Int) - one.c)).toNat).take two.c.toNat = (v.drop two.a.toNat).take two.c.toNat:=by
   rw [e,List.drop_append,List.drop_of_length_le (by simp only [List.length_append,List.length_take,putF_len];omega),List.nil_append,List.drop_drop]
   congr 2
   simp only [List.length_append,List.length_take,putF_len]
   omega
  unfold canV
  dsimp only
  rw [hdr]
  constructor
  ·rintro ⟨r1,r2,r3,r4,r5,r6⟩
   exact ⟨by omega,r2,by omega,r4,r5,r6⟩
  ·rintro ⟨r1,r2,r3,r4,r5,r6⟩
   exact ⟨by omega,r2,by omega,r4,r5,r6⟩
 have iff2:∀ C,changeF d S two = some C→((∃ D,changeF d C one = some D)↔canV d v one):=fun C hC=>by
  obtain ⟨_,e⟩:=cC C hC
  have hcan:=(change_can (d:=d) (S:=S) (x:=two)).1 ⟨C,hC⟩
  rw [← hvv] at hcan
  obtain ⟨q1,q2,q3,q4,q5,q6⟩:=hcan
  have hlen:(visF C.its).length + two.c.toNat = v.length + two.put.length:=by
   rw [e]
   simp only [List.length_append,List.length_take,List.length_drop,putF_len]
   omega
  rw [change_can]
  have hdr:((visF C.its).drop one.a.toNat).take one.c.toNat = (v.drop one.a.toNat).take one.c.toNat:=by
   rw [e,List.append_assoc,List.drop_append_of_le_length (by rw [List.length_take];omega),List.take_append_of_le_length (by rw [List.length_drop,List.length_take];omega),List.drop_take,List.take_take,Nat.min_eq_left (by omega)]
  unfold canV
  rw [hdr]
  constructor
  ·rintro ⟨r1,r2,r3,r4,r5,r6⟩
   exact ⟨r1,r2,by omega,r4,r5,r6⟩
  ·rintro ⟨r1,r2,r3,r4,r5,r6⟩
   refine ⟨r1,r2, ?_,r4,r5,r6⟩
   have:two.a.toNat≤v.length:=by omega
   have h5:(two.put.length:Int) ≥ 0:=by omega
   have h6:(visF C.its).length ≥ two.a.toNat:=by
    rw [e];simp only [List.length_append,List.length_take];omega
   omega
 have can1:=change_can (d:=d) (S:=S) (x:=one)
 have can2:=change_can (d:=d) (S:=S) (x:=two)
 rw [← hvv] at can1 can2
 by_cases p1:canV d v one
 ·by_cases p2:canV d v two
  ·left
   obtain ⟨A,hA⟩:=can1.2 p1
   obtain ⟨C,hC⟩:=can2.2 p2
   obtain ⟨B,hB⟩:=(iff1 A hA).2 p2
   obtain ⟨D,hD⟩:=(iff2 C hC).2 p1
   refine ⟨A,B,C,D,hA,hB,hC,hD, ?_⟩
   obtain ⟨a1,a2⟩:=cA A hA
   obtain ⟨c1,c2⟩:=cC C hC
   have b2:=vis_change (by omega:0≤A.ch) hB
   have d2:=vis_change (by omega:0≤C.ch) hD
   obtain ⟨q1,q2,q3,q4,q5,q6⟩:=p1
   obtain ⟨r1,r2,r3,r4,r5,r6⟩:=p2
   rw [b2,d2,a2,c2]
   simp only [List.map_append,List.map_take,List.map_drop,putF_t]
   rw [show (two.a + ((one.put.length:Int) - one.c)).toNat = one.a.toNat + one.put.length + (two.a.toNat - (one.a.toNat + one.c.toNat)) by omega]
   exact apart_list (n1:=one.a.toNat) (m1:=one.c.toNat) (n2:=two.a.toNat) (m2:=two.c.toNat) (v.map (·.t)) one.put two.put (by omega) (by rw [List.length_map];omega)
  ·right
   refine ⟨fun A hA=>?_,fun C hC=>absurd (can2.1 ⟨C,hC⟩) p2⟩
   cases hB:changeF d A { two with a:=two.a + (one.put.length - one.c) } with
   | none=>rfl
   | some B=>exact absurd ((iff1 A hA).1 ⟨B,hB⟩) p2
 ·right
  refine ⟨fun A hA=>absurd (can1.1 ⟨A,hA⟩) p1,fun C hC=>?_⟩
  cases hD:changeF d C one with
  | none=>rfl
  | some D=>exact absurd ((iff2 C hC).1 ⟨D,hD⟩) p1
end Go.Proofs.YtfppbjfbghaclaaGreat

namespace Go.Proofs.YtfppbjfbghaclaaGreat
open Go.Pal Go.RowKit
set_option maxRecDepth 100000
end Go.Proofs.YtfppbjfbghaclaaGreat

namespace Go.Proofs.YtfppbjfbghaclaaGreat
open Go.Pal Go.RowKit
set_option maxRecDepth 100000
def RowSp (G:Hp) (l:List Sp) (n:Nat) (vs:List Value):Prop:=n = l.length∧vs.length = n * 4∧∀ i (h:i < l.length),((vs.drop (i * 4)).take 4).length = 4∧SpC G ((vs.drop (i * 4)).take 4) l[i]
theorem RowSp.grow {G G':Hp} {l:List Sp} {n:Nat} {vs:List Value} (hg:Grow G G') (h:RowSp G l n vs):RowSp G' l n vs:=⟨h.1,h.2.1,fun i hi=>⟨(h.2.2 i hi).1,SpC.grow _ _ hg (h.2.2 i hi).2⟩⟩
theorem RowSp.snoc {G:Hp} {l:List Sp} {n:Nat} {vs us:List Value} {x:Sp} (h:RowSp G l n vs) (hu:us.length = 4) (hx:SpC G us x):RowSp G (l++[x]) (n + 1) (vs++us):=by
 obtain ⟨rfl,h2,h3⟩:=h
 exact ⟨by simp,by rw [List.length_append,h2,hu];omega,spv_snoc h2 h3 hu hx⟩
theorem RowSp.pub {G:Hp} {a:Option Addr} {l:List Sp} {n c:Nat} {vs:List Value} (h:RowSp G l n vs) (hp:PubRow G a n c vs) (hb:n≤1000000):spsRd.R G (.slice a n c) l :=
 ⟨_,_,_,rfl,SlR.ofPub hp h.1.symm h.2.2,by unfold maxLen;omega⟩
def plainL (d:Dr):List Vi:=(List.range d.ws.length).map fun (i:Nat)=>⟨(d.ws.getD i default).t,(i:Int),0⟩
set_option maxHeartbeats 1000000 in
theorem plain36:Sound Tryz.prog 36 id (gsca (args2 drRd (slRd viE) fun _ _=>True) fun x v=>v = .bool (decide (x.2 = plainL x.1))):=by
 refine comp36.gsca (Tab.nil _) (fun args G s h=>?_) (fun args G x h=>?_)
 ·obtain ⟨u,v,rfl,_⟩:=h;simp
 ·obtain ⟨d,q⟩:=x
  obtain ⟨_,_,rfl,⟨w,k,rfl,⟨wa,wn,wc,rfl,hwl,hwn⟩,⟨ka,kn,kc,rfl,_,_⟩⟩,⟨a,n,c,rfl,hq,hn⟩,_⟩:=h
  dsimp only at hwl hq
  have hqlen:=hq.len
  have hwlen:=hwl.len
  have hpl:(plainL d).length = wn:=by rw [plainL,List.length_map,List.length_range,hwlen]
  dsimp only
  (conv=>whnf)
  refine IteP.mk (fun h0=>W.mk ?_) (fun h0=>W.mk ?_)<;>(conv=>whnf)
  rotate_left
  ·refine FinP.mk (congrArg Value.bool ?_)
   rw [decide_eq_false (fun e=>h0 (by subst e;omega))]
  refine LoopP.of { α:=Nat,fr:=fun x=>[(1, .v (.slice a n c)),(2, .c (.ptr 0 0)),(5, .v (I x))],H:=fun _=>[(0, .cells .anon [.val (.slice wa wn wc), .val (.slice ka kn kc)] 25)],ok:=fun x _=>x≤q.length∧(q = plainL d↔q.drop x = (plainL d).drop x),m:=fun x=>q.length - x }
   0 (HeadP.of [] ⟨rfl,rfl,rfl,trivial⟩ ⟨rfl,trivial⟩) ⟨Nat.zero_le _,Iff.rfl⟩ (fun _=>⟨rfl,rfl⟩) (fun (x:Nat) G' hG hx=>W.mk ?_)
  obtain ⟨hi,hx⟩:=hx
  (conv=>whnf)
  refine IteP.mk (fun hlt=>W.mk ?_) (fun hge=>W.mk ?_)<;>(conv=>whnf)
  ·have hlt1:x < q.length:=by omega
   have hlt2:x < (plainL d).length:=by omega
   have hlt3:x < d.ws.length:=by omega
   have hcq:=(SlR.grow (G:=G) (G':=G') (fun _ _ h=>h) hq hG).el hlt1
   have hcw:=(SlR.grow (G:=G) (G':=G') (fun _ _ h=>h) hwl hG).el hlt3
   have hsx:(plainL d)[x] = ⟨d.ws[x].t,(x:Int),0⟩:=by simp [plainL,hlt3]
   rw [List.drop_eq_getElem_cons hlt1,List.drop_eq_getElem_cons hlt2,List.cons.injEq,hsx] at hx
   generalize d.ws[x] = y at hcw hx
   generalize q[x] = z at hcq hx
   repeat' (first | (refine ob ?_ ?_;(first | trivial | omega | (simp only [inR];omega) | exact ble (by rfl) | exact SlR.some ‹_› (by omega));(conv=>whnf)) | (first | (refine ra ‹_› (by rfl) ?_;(conv=>whnf)) | (refine rb ‹_› (by rfl) ?_;(conv=>whnf)) | (refine rc ‹_› (by rfl) ?_;(conv=>whnf)) | (refine rd ‹_› (by rfl) ?_;(conv=>whnf))))
   refine PurP.of _ (pur_neItem z ⟨y.t,(x:Int),0⟩) (W.mk ?_)
   (conv=>whnf)
   refine ForkP.mk (fun h3=>W.mk ?_) (fun h3=>W.mk ?_)<;>(conv=>whnf)
   ·refine FinP.mk (congrArg Value.bool ?_)
    rw [decide_eq_false (fun e=>by have:=(hx.1 e).1;simp [this] at h3)]
   ·repeat' (refine ob ?_ ?_;(first | trivial | omega | (simp only [inR];omega) | exact ble (by rfl) | exact SlR.some ‹_› (by omega));(conv=>whnf))
    exact RoundP.of (x + 1) (HeadP.of [] ⟨rfl,rfl,rfl,trivial⟩ ⟨rfl,trivial⟩) ⟨hlt1,by rw [hx];exact ⟨fun h=>h.2,fun h=>⟨by simpa using h3,h⟩⟩⟩ (by simp only;omega)
  ·refine FinP.mk (congrArg Value.bool ?_)
   have:q = plainL d:=hx.2 (by rw [List.drop_eq_nil_of_le (by omega),List.drop_eq_nil_of_le (by omega)])
   rw [decide_eq_true this]
end Go.Proofs.YtfppbjfbghaclaaGreat

namespace Go.Proofs.YtfppbjfbghaclaaGreat
open Go.Pal Go.RowKit
set_option maxRecDepth 100000
theorem visF_at {l:List It} {k:Nat} (h:k < (placesF l).length):(visF l).getD k default = l.getD ((placesF l).getD k 0) default:=by
 rw [← places_vis]
 simp [h]
structure Rul where
 f:List ByteArray
 p:List ByteArray
instance:Inhabited Rul:=⟨⟨[],[]⟩⟩
def okRul (r:Rul):Bool:=(inF r.f.length 1 4 && r.f.all textF) && (inF r.p.length 0 4 && r.p.all textF)
def okRuls (rs:List Rul):Bool:=decide (rs.length≤10) && rs.all okRul
def hitF (d:Dr) (v:List It) (r:Rul) (a k:Nat):Bool:=decide ((v.getD (a + k) default).t = r.f.getD k default) && !protF d (v.getD (a + k) default)
def foundF (d:Dr) (v:List It) (r:Rul) (a:Nat):Bool:=decide (a + r.f.length≤v.length) && (List.range r.f.length).all (hitF d v r a)
def stepR (r:Rul) (a:Nat):Sp:=⟨0,(a:Int),(r.f.length:Int),r.p⟩
def chV (v:List It) (c:Int) (r:Rul) (a:Nat):List It:=v.take a++putF (c + 1) r.p++v.drop (a + r.f.length)
inductive Run (d:Dr) (rs:List Rul):List It→Int→Nat→Nat→List Sp→Option (List Sp)→Prop
 | done {v c i a out}:rs.length≤i→Run d rs v c i a out (some out)
 | next {v c i a out r}:i < rs.length→v.length≤a→Run d rs v c (i + 1) 0 out r→Run d rs v c i a out r
 | skip {v c i a out r}:i < rs.length→a < v.length→foundF d v (rs.getD i default) a = false→Run d rs v c i (a + 1) out r→Run d rs v c i a out r
 | full {v c i a out}:i < rs.length→a < v.length→foundF d v (rs.getD i default) a = true→80≤out.length→Run d rs v c i a out none
 | hit {v c i a out r}:i < rs.length→a < v.length→foundF d v (rs.getD i default) a = true→out.length < 80→Run d rs (chV v c (rs.getD i default) a) (c + 1) i (a + (rs.getD i default).p.length) (out++[stepR (rs.getD i default) a]) r→Run d rs v c i a out r
theorem Run.uniq {d:Dr} {rs:List Rul} {v:List It} {c:Int} {i a:Nat} {out:List Sp} {r r':Option (List Sp)} (h:Run d rs v c i a out r) (h':Run d rs v c i a out r'):r = r':=by
 induction h with
 | done h1=>cases h'<;>first | rfl | (exfalso;omega)
 | next h1 h2 _ ih=>cases h'<;>first | exact ih ‹_› | (exfalso;omega)
 | skip h1 h2 h3 _ ih =>
  cases h'<;>first | (exfalso;omega) | exact ih ‹_› | exact absurd (h3.symm.trans ‹foundF d _ _ _ = true›) (by decide)
 | full h1 h2 h3 h4 =>
  cases h'<;>first | rfl | (exfalso;omega) | exact absurd (h3.symm.trans ‹foundF d _ _ _ = false›) (by decide)
 | hit h1 h2 h3 h4 _ ih =>
  cases h'<;>first | (exfalso;omega) | exact ih ‹_› | exact absurd (h3.symm.trans ‹foundF d _ _ _ = false›) (by decide)
theorem okRul_iff {r:Rul}:okRul r = true↔(1≤r.f.length∧r.f.length≤4∧r.f.all textF = true)∧(inF r.p.length 0 4 && r.p.all textF) = true:=by
 simp only [okRul,Bool.and_eq_true,inF,decide_eq_true_eq]
 constructor
 ·rintro ⟨⟨h1,h2⟩,h3⟩;exact ⟨⟨by omega,by omega,h2⟩,h3⟩
 ·rintro ⟨⟨h1,h2,h3⟩,h4⟩;exact ⟨⟨⟨by omega,by omega⟩,h3⟩,h4⟩
theorem okRul_p {r:Rul} (h:okRul r = true):r.p.length≤4:=by
 have h2:=(okRul_iff.1 h).2
 simp only [Bool.and_eq_true,inF,decide_eq_true_eq] at h2
 omega
theorem found_iff {d:Dr} {v:List It} {r:Rul} {a:Nat}:foundF d v r a = true↔a + r.f.length≤v.length∧∀ k < r.f.length,(v.getD (a + k) default).t = r.f.getD k default∧protF d (v.getD (a + k) default) = false:=by
 simp only [foundF,Bool.and_eq_true,decide_eq_true_eq,range_all,hitF,Bool.not_eq_true']
theorem change_hit {d:Dr} {S:Sh} {r:Rul} {a:Nat} (h0:0≤S.ch) (hr:okRul r = true) (hf:foundF d (visF S.its) r a = true):∃ S1,changeF d S (stepR r a) = some S1∧visF S1.its = chV (visF S.its) S.ch r a∧S1.ch = S.ch + 1:=by
 obtain ⟨h1,h2⟩:=found_iff.1 hf
 obtain ⟨⟨g1,g2,g3⟩,g4⟩:=okRul_iff.1 hr
 obtain ⟨S1,hS⟩:=(change_can (d:=d) (S:=S) (x:=stepR r a)).2 ⟨by show (0:Int)≤(a:Int);omega,⟨by show (0:Int)≤(r.f.length:Int);omega,by show (r.f.length:Int)≤4;omega⟩,by show (a:Int) + (r.f.length:Int)≤_;omega,g4,by show (0:Int) < (r.f.length:Int) + (r.p.length:Int);omega,fun y hy=>by
  obtain ⟨k,hk,rfl⟩:=List.mem_iff_getElem.1 hy
  have hk2:k < r.f.length:=by
   rw [List.length_take] at hk
   have e:(stepR r a).c.toNat = r.f.length:=rfl
   omega
  have:=(h2 k hk2).2
  have e:(visF S.its).getD (a + k) default = (visF S.its)[a + k]'(by omega):=by simp [show a + k < (visF S.its).length by omega]
  rw [e] at this
  simpa [stepR] using this⟩
 refine ⟨S1,hS, ?_, ?_⟩
 ·rw [vis_change h0 hS]
  show (visF S.its).take ((a:Int)).toNat++_++(visF S.its).drop ((a:Int).toNat + (r.f.length:Int).toNat) = _
  rfl
 ·unfold changeF at hS
  split at hS
  ·cases hS;rfl
  ·cases hS
theorem chV_len {v:List It} {c:Int} {r:Rul} {a:Nat} (h:a + r.f.length≤v.length):(chV v c r a).length + r.f.length = v.length + r.p.length:=by
 simp only [chV,List.length_append,List.length_take,List.length_drop,putF_len]
 omega
def Styles (d:Dr) (rs:List Rul) (r:Option (List Sp)):Prop:=Run d rs (visF (beginS d).its) 0 0 0 [] r
end Go.Proofs.YtfppbjfbghaclaaGreat

namespace Go.Proofs.YtfppbjfbghaclaaGreat
open Go.Pal Go.RowKit
set_option maxRecDepth 100000
def RuC (G:Hp) (cs:List Value) (r:Rul):Prop:=∃ f p,cs = [f,p]∧SlV strE G f r.f∧SlV strE G p r.p
theorem RuC.uniq {G:Hp} {cs:List Value} {x y:Rul} (h:RuC G cs x) (h':RuC G cs y):x = y:=by
 obtain ⟨f,p,h1,h2,h3⟩:=h
 obtain ⟨f',p',h1',h2',h3'⟩:=h'
 rw [h1] at h1'
 simp only [List.cons.injEq,and_true] at h1'
 obtain ⟨rfl,rfl⟩:=h1'
 have e1:=h2.uniq h2'
 have e2:=h3.uniq h3'
 cases x;cases y;simp_all
theorem RuC.grow {G G':Hp} (cs:List Value) (x:Rul) (hg:Grow G G') (h:RuC G cs x):RuC G' cs x:=by
 obtain ⟨f,p,h1,h2,h3⟩:=h
 exact ⟨f,p,h1,h2.grow hg,h3.grow hg⟩
def rusRd:Rd (List Rul):=⟨fun G v l=>∃ a n c,v = .slice a n c∧SlR 2 RuC G a n c l∧n≤140737488355328,fun ⟨a,n,c,h,h1,_⟩ ⟨a',n',c',h',h1',_⟩=>by
  rw [h] at h';cases h'
  exact h1.uniq (fun cs x y h h'=>RuC.uniq h h') h1',fun {G G' _ _} hg ⟨a,n,c,h,h1,h2⟩=>⟨a,n,c,h,SlR.grow (G:=G) (G':=G') (fun cs x h=>RuC.grow cs x hg h) h1 hg,h2⟩⟩
theorem list_of {α:Type} {p:Nat→α→Prop}:∀ {n:Nat},(∀ i < n, ∃ x,p i x)→∃ l:List α,l.length = n∧∀ i (h:i < l.length),p i l[i]
 | 0,_=>⟨[],rfl,fun i h=>absurd h (by simp)⟩
 | n + 1,h=>by
  obtain ⟨l,h1,h2⟩:=list_of (n:=n) fun i hi=>h i (by omega)
  obtain ⟨x,hx⟩:=h n (by omega)
  refine ⟨l++[x],by simp [h1],fun i hi=>?_⟩
  by_cases hn:i < l.length
  ·rw [List.getElem_append_left hn];exact h2 i hn
  ·have:i = l.length:=by simp at hi;omega
   subst this
   rw [List.getElem_append_right (Nat.le_refl _)]
   simpa [h1] using hx
def RawOk (G:Hp) (x:Sl3 × Sl3) (r:Rul):Prop:=SlV strE G (slOf x.1) r.f∧SlV strE G (slOf x.2) r.p
theorem RawOk.grow {G G':Hp} {x:Sl3 × Sl3} {r:Rul} (hg:Grow G G') (h:RawOk G x r):RawOk G' x r:=⟨h.1.grow hg,h.2.grow hg⟩
theorem raws {G:Hp} {v:Value} {rs:List Rul} (h:rusRd.R G v rs):∃ l,SlV rawE G v l∧l.length = rs.length∧∀ i < l.length,RawOk G (l.getD i default) (rs.getD i default):=by
 obtain ⟨a,n,c,rfl,h1,h2⟩:=h
 have hlen:=h1.len
 obtain ⟨l,k1,k2⟩:=list_of (n:=n) (p:=fun i (x:Sl3 × Sl3)=>CellsAt G (ab a) (ao a + i * 2) (rawE.f x)∧RawOk G x (rs.getD i default)) fun i hi=>by
  obtain ⟨cs,c1,c2,f,p,rfl,c4,c5⟩:=h1.at_ i (by omega)
  obtain ⟨fa,fn,fc,rfl,_⟩:=id c4
  obtain ⟨pa,pn,pc,rfl,_⟩:=id c5
  have e:rs.getD i default = rs[i]:=by simp [show i < rs.length by omega]
  exact ⟨((fa,fn,fc),(pa,pn,pc)),c2,by rw [e];exact ⟨c4,c5⟩⟩
 refine ⟨l,⟨a,n,c,rfl,⟨k1,h1.cap,h1.some,fun i hi=>⟨_,rawE.len _,(k2 i hi).1,rfl⟩⟩,h2⟩,by omega,fun i hi=>?_⟩
 have e:l.getD i default = l[i]:=by simp [hi]
 rw [e];exact (k2 i hi).2
theorem Sound.hpWith {P:Program} {f:FuncId} {sh:List Value→List Value} {pre pre':List Value→Hp→Hp→Prop} {q q':List Value→Hp→Value→Hp→Hp→Prop} {R:List Value→Hp→Prop} (h:Sound P f sh (.hp pre q)) (hR:∀ args G G',Grow G G'→R args G→R args G') (h1:∀ args p G,pre' args p G→pre args p G∧R args G) (h2:∀ args p v p' G,q args p v p' G→R args G→q' args p v p' G)
  (hm:∀ args p v p' G G',Grow G G'→q' args p v p' G→q' args p v p' G'):Sound P f sh (.hp pre' q') :=
 ⟨hm,fun args p G W hs hp hpre=>(h.2 args p G W hs hp (h1 args p G hpre).1).mono fun e W' ⟨v,p',G',k1,k2,k3,k4,k5⟩=>⟨v,p',G',k1,h2 _ _ _ _ _ k2 (hR _ _ _ k4 (h1 args p G hpre).2),k3,k4,k5⟩⟩
theorem right58 (r:Rul) (x:Sl3 × Sl3):Sound Tryz.prog 58 id (pureS (fun args G=>args = [.agg (rawE.f x).toArray]∧RawOk G x r) (.bool (okRul r))):=by
 refine comp58.hp (Tab.nil _) (fun args p G h=>?_) (fun args p v p' G G' hg h=>h) (fun args p G h=>?_)
 ·obtain ⟨rfl,_⟩:=h;simp
 ·obtain ⟨rfl,h1,h2⟩:=h
  obtain ⟨⟨fa,fn,fc⟩,pa,pn,pc⟩:=x
  (conv=>whnf)
  refine CallH.mk _ (texts59 r.f 1 4) body59 (W.mk ?_)
  (conv=>whnf)
  refine HpcP.mk ⟨_,rfl,h1⟩ (fun v p1 G1 hg1 hq=>W.mk ?_)
  obtain ⟨rfl,hk1⟩:=hq
  dsimp only
  (conv=>whnf)
  refine ForkP.mk (fun e1=>W.mk ?_) (fun e1=>W.mk ?_)<;>(conv=>whnf)
  ·refine CallH.mk _ (texts59 r.p 0 4) body59 (W.mk ?_)
   (conv=>whnf)
   refine HpcP.mk ⟨_,rfl,h2.grow hg1⟩ (fun v p2 G2 hg2 hq=>W.mk ?_)
   obtain ⟨rfl,hk2⟩:=hq
   dsimp only
   (conv=>whnf)
   refine ForkP.mk (fun e2=>W.mk ?_) (fun e2=>W.mk ?_)<;>(conv=>whnf)<;>refine NmP.mk ⟨[],W.mk ?_⟩<;>(conv=>whnf)<;>refine FinHp.of rfl ⟨congrArg Value.bool ?_,hk1.trans hk2⟩<;>rw [okRul,e1,e2]<;>rfl
  ·refine NmP.mk ⟨[],W.mk ?_⟩
   (conv=>whnf)
   refine FinHp.of rfl ⟨congrArg Value.bool ?_,hk1⟩
   rw [okRul,e1];rfl
theorem judge58 (l:List (Sl3 × Sl3)) (rs:List Rul) (hl:l.length = rs.length):Judge Tryz.prog (.func (.func 58) #[] #[]) (fun w=>.agg (rawE.f w).toArray) l (fun _ _ G=>∀ i < l.length,RawOk G (l.getD i default) (rs.getD i default)) (fun _=>False) (fun i=>okRul (rs.getD i default)) true:=by
 refine ⟨fun i hi _=>SoundFn.of body58 (Sound.bare ?_),fun _ _ _ _ _ h=>h,fun i p G G' hg h k hk=>(h k hk).grow hg,fun _ _ _ _ _ h=>h.elim⟩
 have e:l.getD i default = l[i]:=by simp [hi]
 refine Sound.hpWith (R:=fun _ G=>∀ i < l.length,RawOk G (l.getD i default) (rs.getD i default)) (right58 (rs.getD i default) l[i]) (fun args G G' hg h k hk=>(h k hk).grow hg) (fun args p G hp=>⟨⟨hp.1,by rw [← e];exact hp.2 i hi⟩,hp.2⟩) (fun args p v p' G hq hR=>⟨hq.1,hR,hq.2⟩) (fun args p v p' G G' hg h=>⟨h.1,fun k hk=>(h.2.1 k hk).grow hg,h.2.2⟩)
end Go.Proofs.YtfppbjfbghaclaaGreat

namespace Go.Proofs.YtfppbjfbghaclaaGreat
open Go.Pal Go.RowKit
set_option maxRecDepth 100000
theorem none63:Sound Tryz.prog 63 id (.fn (fun args _=>args = []) fun _=>.agg #[I (-1),I (-1)]):=by
 refine comp63.fn (Tab.nil _) (fun args G h=>?_) (fun args G h=>?_)
 ·subst h;simp
 ·subst h
  (conv=>whnf)
  repeat' (refine ob ?_ ?_;(first | trivial | omega | (simp only [inR];omega) | exact ble (by rfl) | exact SlR.some ‹_› (by omega));(conv=>whnf))
  exact FinP.mk rfl
theorem found89 (b:Nat) (d:Dr) (S:Sh) (hs:S.small) (r:Rul) (a:Nat) (ha:a≤100000) (hr:r.f.length≤1000):Sound Tryz.prog 89 id (.hp (fun args p G=>∃ cs pv,args = [ptr b, .agg cs.toArray,pv,I a]∧RuC G cs r∧SlV natE G pv (placesF S.its)∧ShH p G b d S) fun _ p v p' _=>v = .bool (foundF d (visF S.its) r a)∧p' = p):=by
 refine comp89.hp (Tab.nil _) (fun args p G h=>?_) (fun args p v p' G G' hg h=>h) (fun args p G h=>?_)
 ·obtain ⟨cs,pv,rfl,_⟩:=h;simp
 ·obtain ⟨_,pv,rfl,⟨f,q,rfl,hfv,hqv⟩,hpl,w,k,iv,lv,hv⟩:=h
  obtain ⟨fa,fn,fc,rfl,hf,hfn⟩:=id hfv
  obtain ⟨qa,qn,qc,rfl,_,_⟩:=id hqv
  obtain ⟨va,vn,vc,rfl,hvl,hvn⟩:=id hpl
  have hflen:=hf.len
  have hvlen:=hvl.len
  have hvis:=places_len S.its
  have hple:=placesN_le S.its S.its.length
  have hpl9:vn≤10000:=by have:=hs.1;have:(placesF S.its).length≤S.its.length:=hple;omega
  (conv=>whnf)
  repeat' (refine ob ?_ ?_;(first | trivial | omega | (simp only [inR];omega) | exact ble (by rfl) | exact SlR.some ‹_› (by omega));(conv=>whnf))
  refine IteP.mk (fun h0=>W.mk ?_) (fun h0=>W.mk ?_)<;>(conv=>whnf)
  ·refine NmP.mk ⟨[],W.mk ?_⟩
   (conv=>whnf)
   refine FinHp.of rfl ⟨congrArg Value.bool ?_,rfl⟩
   symm
   rw [foundF,decide_eq_false (by omega),Bool.false_and]
  refine LoopP.of { α:=Nat,fr:=fun x=>[(0, .v (ptr b)),(2, .v (.slice va vn vc)),(3, .v (I a)),(5, .c (.ptr 1000 0)),(21, .v (.slice fa fn fc)),(22, .v (I fn)),(23, .v (I x))],H:=fun _=>[(0, .heap p),(1000, .cells .anon [.val (.slice fa fn fc), .val (.slice qa qn qc)] 119)],ok:=fun i _=>i≤r.f.length∧∀ j < i,hitF d (visF S.its) r a j = true,m:=fun x=>r.f.length - x }
   0 (HeadP.of [] ⟨rfl,rfl,rfl,rfl,rfl,rfl,rfl,trivial⟩ ⟨rfl,rfl,trivial⟩) ⟨Nat.zero_le _,fun j hj=>by omega⟩ (fun _=>⟨rfl,rfl⟩) (fun (i:Nat) G2 hg2 hx=>W.mk ?_)
  obtain ⟨hi,hx⟩:=hx
  dsimp only
  (conv=>whnf)
  refine IteP.mk (fun hlt=>W.mk ?_) (fun hge=>W.mk ?_)<;>(conv=>whnf)
  ·have h1:i < r.f.length:=by omega
   have hvl2:=SlR.grow (G:=G) (G':=G2) (fun _ _ h=>h) hvl hg2
   have hf2:=SlR.grow (G:=G) (G':=G2) (fun _ _ h=>h) hf hg2
   have hv2:=ShV.grow hg2 hv
   have h2:a + i < (placesF S.its).length:=by omega
   have hva:=visF_at h2
   have hpg:(placesF S.its).getD (a + i) 0 = (placesF S.its)[a + i]:=by simp [h2]
   have hpm:=placesN_lt (List.getElem_mem h2)
   have hce:=hvl2.el h2
   rw [hpg] at hva
   generalize (placesF S.its)[a + i] = q at hva hpm hce
   obtain ⟨ib,c2,rest2,rfl,hb2,hfit2,_⟩:=ShV.item hv2 hpm
   have hgq:S.its.getD q default = S.its[q]:=by simp [hpm]
   rw [hgq] at hva
   have hfl:=flat_at itE S.its rest2 hpm
   generalize S.its[q] = y at hva hfl
   have hcf:=hf2.el h1
   have hgf:r.f.getD i default = r.f[i]:=by simp [h1]
   have bad:hitF d (visF S.its) r a i = false→foundF d (visF S.its) r a = false:=fun h=>by
    have:(List.range r.f.length).all (hitF d (visF S.its) r a) = false:=by
     cases hh:(List.range r.f.length).all (hitF d (visF S.its) r a) with
     | false=>rfl
     | true=>rw [range_all.1 hh i h1] at h;cases h
    rw [foundF,this,Bool.and_false]
   have hhit:hitF d (visF S.its) r a i = (decide (y.t = r.f[i]) && !protF d y):=by rw [hitF,hva,hgf]
   have nxt:hitF d (visF S.its) r a i = true→∀ j < i + 1,hitF d (visF S.its) r a j = true:=fun ht j hj=>by
    rcases Nat.lt_or_eq_of_le (Nat.le_of_lt_succ hj) with h | h
    ·exact hx j h
    ·subst h;exact ht
   generalize r.f[i] = s at hcf hhit
   rw [hhit] at bad nxt
   (refine ob ?_ ?_;(first | trivial | omega | (simp only [inR];omega) | exact ble (by rfl) | exact SlR.some ‹_› (by omega));(conv=>whnf))
   refine OblP.mk (hf2.some (by omega)) (W.mk ?_)
   (conv=>whnf)
   refine RdhP.g hcf rfl (W.mk ?_)
   (conv=>whnf)
   refine RdhP.h (ds:=[w,k, .slice (some ⟨ib,0,none⟩) S.its.length c2,lv,I S.ch]) hv2.1 rfl (W.mk ?_)
   (conv=>whnf)
   repeat' (refine ob ?_ ?_;(first | trivial | omega | (simp only [inR];omega) | exact ble (by rfl) | exact SlR.some ‹_› (by omega));(conv=>whnf))
   rw [show ((a:Int) + (i:Int)).toNat = a + i by omega]
   refine RdhP.g hce rfl (W.mk ?_)
   (conv=>whnf)
   repeat' (refine ob ?_ ?_;(first | trivial | omega | (simp only [inR];omega) | exact ble (by rfl) | exact SlR.some ‹_› (by omega));(conv=>whnf))
   refine RowH.cells (cs:=itE.f y) hb2 (by rw [← hfl];simp;rfl) rfl (W.mk ?_)
   (conv=>whnf)
   have fin:∀ bb:Bool,foundF d (visF S.its) r a = bb→Value.bool bb = .bool (foundF d (visF S.its) r a)∧p = p:=fun bb h=>⟨by rw [h],rfl⟩
   refine PurP.of _ (pur_neT y.t s) (W.mk ?_)
   (conv=>whnf)
   refine ForkP.mk (fun ht=>W.mk ?_) (fun ht=>W.mk ?_)<;>(conv=>whnf)
   ·refine NmP.mk ⟨[],W.mk ?_⟩
    (conv=>whnf)
    exact FinHp.of rfl (fin false (bad (by simp at ht;simp [ht])))
   ·have ht:y.t = s:=by simpa using ht
    refine CallH.mk _ (prot91 b d S y) body91 (W.mk ?_)
    (conv=>whnf)
    refine HpcP.mk ⟨rfl,w,k,_,_,hv2⟩ (fun v p5 G5 hg5 hq=>W.mk ?_)
    obtain ⟨rfl,rfl⟩:=hq
    cases hpr:protF d y with
    | true =>
     (conv=>whnf)
     refine ForkP.mk (fun _=>W.mk ?_) (fun h=>by cases h)
     (conv=>whnf)
     refine NmP.mk ⟨[],W.mk ?_⟩
     (conv=>whnf)
     exact FinHp.of rfl (fin false (bad (by rw [hpr];simp)))
    | false =>
     (conv=>whnf)
     refine ForkP.mk (fun h=>by cases h) (fun _=>W.mk ?_)
     (conv=>whnf)
     repeat' (refine ob ?_ ?_;(first | trivial | omega | (simp only [inR];omega) | exact ble (by rfl) | exact SlR.some ‹_› (by omega));(conv=>whnf))
     exact RoundP.of (i + 1) (HeadP.of [] ⟨rfl,rfl,rfl,rfl,rfl,rfl,rfl,trivial⟩ ⟨rfl,rfl,trivial⟩) ⟨h1,nxt (by rw [hpr,ht];simp)⟩ (by simp only;omega)
  ·have:i = r.f.length:=by omega
   subst this
   refine NmP.mk ⟨[],W.mk ?_⟩
   (conv=>whnf)
   refine FinHp.of rfl ⟨congrArg Value.bool ?_,rfl⟩
   symm
   rw [foundF,decide_eq_true (by omega),Bool.true_and]
   exact range_all.2 hx
def NextQ (d:Dr) (rs:List Rul) (v:List It) (i a:Nat) (res:Value):Prop :=
 (res = .agg #[I (-1),I (-1)]∧∀ c out,Run d rs v c i a out (some out)) ∨
 ∃ i' a':Nat,res = .agg #[I i',I a']∧i' < rs.length∧a' < v.length∧foundF d v (rs.getD i' default) a' = true∧(i < i'∨i = i'∧a≤a')∧∀ c out r,Run d rs v c i' a' out r→Run d rs v c i a out r
theorem next62 (b:Nat) (d:Dr) (S:Sh) (hs:S.small) (rs:List Rul) (hrs:rs.length≤1000∧∀ r∈rs,r.f.length≤1000) (i a:Nat) (ha:a≤100000) (hi:i≤1000):Sound Tryz.prog 62 id (.hp (fun args p G=>∃ rv,args = [ptr b,rv, .agg #[I i,I a]]∧rusRd.R G rv rs∧ShH p G b d S) fun _ p v p' _=>NextQ d rs (visF S.its) i a v∧p' = p):=by
 refine comp62.hp (Tab.nil _) (fun args p G h=>?_) (fun args p v p' G G' hg h=>h) (fun args p G h=>?_)
 ·obtain ⟨rv,rfl,_⟩:=h;simp
 ·obtain ⟨rv,rfl,⟨ra,rn,rc,rfl,hrl,hrn⟩,hsh⟩:=h
  have hrlen:=hrl.len
  (conv=>whnf)
  repeat' (refine ob ?_ ?_;(first | trivial | omega | (simp only [inR];omega) | exact ble (by rfl) | exact SlR.some ‹_› (by omega));(conv=>whnf))
  refine CallH.mk _ (placesH b d S hs) body88 (W.mk ?_)
  (conv=>whnf)
  refine HpcP.mk ⟨rfl,hsh⟩ (fun v p1 G1 hg1 hq=>W.mk ?_)
  obtain ⟨rfl,hpl⟩:=hq
  obtain ⟨va,vn,vc,rfl,hvl,hvn⟩:=id hpl
  have hvlen:=hvl.len
  have hvis:=places_len S.its
  have hple:=placesN_le S.its S.its.length
  have hpl9:vn≤10000:=by have:=hs.1;have:(placesF S.its).length≤S.its.length:=hple;omega
  have hsh1:=hsh.grow hg1
  (conv=>whnf)
  refine LoopP.of { α:=Nat × Nat,fr:=fun x=>[(0, .v (ptr b)),(1, .v (.slice ra rn rc)),(5, .c (.ptr 1000 0)),(6, .c (.ptr 1001 0)),(7, .v (.slice va vn vc))],H:=fun x=>[(0, .heap p1),(1000, .cells .anon [.val (I x.1), .val (I x.2)] 125),(1001, .cells .anon [.val (I 0), .val (I 0)] 125)],ok:=fun x _=>x.1≤1000∧x.2≤100000∧(i < x.1∨i = x.1∧a≤x.2)∧∀ c out r,Run d rs (visF S.its) c x.1 x.2 out r→Run d rs (visF S.its) c i a out r,m:=fun x=>rs.length - x.1 }
   (i,a) (HeadP.of [] ⟨rfl,rfl,rfl,rfl,rfl,trivial⟩ ⟨rfl,rfl,rfl,trivial⟩) ⟨hi,ha, .inr ⟨rfl,Nat.le_refl _⟩,fun _ _ _ h=>h⟩ (fun _=>⟨rfl,rfl⟩) (fun x G2 hg2 hx=>W.mk ?_)
  obtain ⟨i1,a1⟩:=x
  obtain ⟨hi1,ha1,hle,hback⟩:=hx
  dsimp only at hi1 ha1 hle hback
  dsimp only
  (conv=>whnf)
  repeat' (refine ob ?_ ?_;(first | trivial | omega | (simp only [inR];omega) | exact ble (by rfl) | exact SlR.some ‹_› (by omega));(conv=>whnf))
  refine IteP.mk (fun hlt=>W.mk ?_) (fun hge=>W.mk ?_)<;>(conv=>whnf)
  ·have h1:i1 < rs.length:=by omega
   repeat' (refine ob ?_ ?_;(first | trivial | omega | (simp only [inR];omega) | exact ble (by rfl) | exact SlR.some ‹_› (by omega));(conv=>whnf))
   refine LoopP.of { α:=Nat,fr:=fun x=>[(0, .v (ptr b)),(1, .v (.slice ra rn rc)),(5, .c (.ptr 1000 0)),(6, .c (.ptr 1001 0)),(7, .v (.slice va vn vc)),(8, .v (I x))],H:=fun _=>[(0, .heap p1),(1000, .cells .anon [.val (I i1), .val (I a1)] 125),(1001, .cells .anon [.val (I 0), .val (I 0)] 125)],ok:=fun x _=>x≤100000∧a1≤x∧∀ c out r,Run d rs (visF S.its) c i1 x out r→Run d rs (visF S.its) c i1 a1 out r,m:=fun x=>vn - x }
    a1 (HeadP.of [] ⟨rfl,rfl,rfl,rfl,rfl,rfl,trivial⟩ ⟨rfl,rfl,rfl,trivial⟩) ⟨ha1,Nat.le_refl _,fun _ _ _ h=>h⟩ (fun _=>⟨rfl,rfl⟩) (fun (a2:Nat) G3 hg3 hx=>W.mk ?_)
   obtain ⟨ha2,hle2,hback2⟩:=hx
   dsimp only
   (conv=>whnf)
   refine IteP.mk (fun hlt2=>W.mk ?_) (fun hge2=>W.mk ?_)<;>(conv=>whnf)
   ·have h2:a2 < (visF S.its).length:=by omega
    have hrl3:=SlR.grow (G:=G) (G':=G3) (fun cs x h=>RuC.grow cs x (hg1.trans (hg2.trans hg3)) h) hrl (hg1.trans (hg2.trans hg3))
    obtain ⟨cs,c1,c2,c3⟩:=hrl3.at_ i1 h1
    have hgr:rs.getD i1 default = rs[i1]:=by simp [h1]
    have hf9:=hrs.2 _ (List.getElem_mem h1)
    rw [← hgr] at c3 hf9
    obtain ⟨f,q,rfl,hfv,hqv⟩:=id c3
    obtain ⟨fa,fn,fc,rfl,_,_⟩:=id hfv
    obtain ⟨qa,qn,qc,rfl,_,_⟩:=id hqv
    repeat' (refine ob ?_ ?_;(first | trivial | omega | (simp only [inR];omega) | exact ble (by rfl) | exact SlR.some ‹_› (by omega));(conv=>whnf))
    refine RdhP.g c2 rfl (W.mk ?_)
    (conv=>whnf)
    refine CallH.mk _ (found89 b d S hs (rs.getD i1 default) a2 (by omega) hf9) body89 (W.mk ?_)
    (conv=>whnf)
    refine HpcP.mk ⟨_,_,rfl,c3,hpl.grow (hg2.trans hg3),hsh1.grow (hg2.trans hg3)⟩ (fun v p5 G5 hg5 hq=>W.mk ?_)
    obtain ⟨rfl,rfl⟩:=hq
    cases hfo:foundF d (visF S.its) (rs.getD i1 default) a2 with
    | true =>
     (conv=>whnf)
     refine ForkP.mk (fun _=>W.mk ?_) (fun h=>by cases h)
     (conv=>whnf)
     repeat' (refine ob ?_ ?_;(first | trivial | omega | (simp only [inR];omega) | exact ble (by rfl) | exact SlR.some ‹_› (by omega));(conv=>whnf))
     refine NmP.mk ⟨[],W.mk ?_⟩
     (conv=>whnf)
     exact FinHp.of rfl ⟨.inr ⟨i1,a2,rfl,h1,h2,hfo,by omega,fun c out r h=>hback _ _ _ (hback2 _ _ _ h)⟩,rfl⟩
    | false =>
     (conv=>whnf)
     refine ForkP.mk (fun h=>by cases h) (fun _=>W.mk ?_)
     (conv=>whnf)
     repeat' (refine ob ?_ ?_;(first | trivial | omega | (simp only [inR];omega) | exact ble (by rfl) | exact SlR.some ‹_› (by omega));(conv=>whnf))
     exact RoundP.of (a2 + 1) (HeadP.of [] ⟨rfl,rfl,rfl,rfl,rfl,rfl,trivial⟩ ⟨rfl,rfl,rfl,trivial⟩) ⟨by omega,by omega,fun c out r h=>hback2 _ _ _ (.skip h1 h2 hfo h)⟩ (by simp only;omega)
   ·repeat' (refine ob ?_ ?_;(first | trivial | omega | (simp only [inR];omega) | exact ble (by rfl) | exact SlR.some ‹_› (by omega));(conv=>whnf))
    exact RoundP.of (i1 + 1,0) (HeadP.of [] ⟨rfl,rfl,rfl,rfl,rfl,trivial⟩ ⟨rfl,rfl,rfl,trivial⟩) ⟨by omega,by omega, .inl (by omega),fun c out r h=>hback _ _ _ (hback2 _ _ _ (.next h1 (by omega) h))⟩ (by simp only;omega)
  ·refine CallH.mk _ none63 body63 (W.mk ?_)
   (conv=>whnf)
   refine OblP.mk rfl (W.mk ?_)
   (conv=>whnf)
   repeat' (refine ob ?_ ?_;(first | trivial | omega | (simp only [inR];omega) | exact ble (by rfl) | exact SlR.some ‹_› (by omega));(conv=>whnf))
   refine NmP.mk ⟨[],W.mk ?_⟩
   (conv=>whnf)
   exact FinHp.of rfl ⟨.inl ⟨rfl,fun c out=>hback _ _ _ (.done (by omega))⟩,rfl⟩
end Go.Proofs.YtfppbjfbghaclaaGreat

namespace Go.Proofs.YtfppbjfbghaclaaGreat
open Go.Pal Go.RowKit
set_option maxRecDepth 100000
def RuU (G:Hp) (cs:List Value) (r:Rul):Prop:=∃ f p,cs = [f,p]∧SlU strE G f r.f∧SlU strE G p r.p
theorem RuU.uniq {G:Hp} {cs:List Value} {x y:Rul} (h:RuU G cs x) (h':RuU G cs y):x = y:=by
 obtain ⟨f,p,h1,h2,h3⟩:=h
 obtain ⟨f',p',h1',h2',h3'⟩:=h'
 rw [h1] at h1'
 simp only [List.cons.injEq,and_true] at h1'
 obtain ⟨rfl,rfl⟩:=h1'
 have e1:=h2.uniq h2'
 have e2:=h3.uniq h3'
 cases x;cases y;simp_all
theorem RuU.grow {G G':Hp} (cs:List Value) (x:Rul) (hg:Grow G G') (h:RuU G cs x):RuU G' cs x:=by
 obtain ⟨f,p,h1,h2,h3⟩:=h
 exact ⟨f,p,h1,h2.grow hg,h3.grow hg⟩
theorem RuU.c {G:Hp} {cs:List Value} {x:Rul} (h:RuU G cs x) (hb:x.f.length≤140737488355328) (hc:x.p.length≤140737488355328):RuC G cs x:=by
 obtain ⟨f,p,rfl,h2,h3⟩:=h
 exact ⟨f,p,rfl,SlU.v h2 hb,SlU.v h3 hc⟩
def ruURd:Rd (List Rul):=⟨fun G v l=>∃ a n c,v = .slice a n c∧SlR 2 RuU G a n c l∧n≤maxLen,fun ⟨a,n,c,h,h1,_⟩ ⟨a',n',c',h',h1',_⟩=>by
  rw [h] at h';cases h'
  exact h1.uniq (fun cs x y h h'=>RuU.uniq h h') h1',fun {G G' _ _} hg ⟨a,n,c,h,h1,h2⟩=>⟨a,n,c,h,SlR.grow (G:=G) (G':=G') (fun cs x h=>RuU.grow cs x hg h) h1 hg,h2⟩⟩
theorem rusRd.u {G:Hp} {v:Value} {rs:List Rul} (h:rusRd.R G v rs):ruURd.R G v rs:=by
 obtain ⟨a,n,c,rfl,h1,h2⟩:=h
 exact ⟨a,n,c,rfl,SlR.imp h1 fun cs x _ ⟨f,p,e,k1,k2⟩=>⟨f,p,e,SlV.u k1,SlV.u k2⟩,by unfold maxLen;omega⟩
def fewR (r:Rul):Prop:=r.f.length≤1000∧r.p.length≤1000
theorem ruURd.s {G:Hp} {v:Value} {rs:List Rul} (h:ruURd.R G v rs) (hb:rs.length≤1000) (hr:∀ r∈rs,fewR r):rusRd.R G v rs:=by
 obtain ⟨a,n,c,rfl,h1,h2⟩:=h
 exact ⟨a,n,c,rfl,SlR.imp h1 fun cs x hx k=>k.c (by have:=(hr x hx).1;omega) (by have:=(hr x hx).2;omega),by have:=h1.len;omega⟩
theorem okRuls_few {rs:List Rul} (h:okRuls rs = true):rs.length≤10∧∀ r∈rs,fewR r:=by
 simp only [okRuls,Bool.and_eq_true,decide_eq_true_eq,List.all_eq_true] at h
 exact ⟨h.1,fun r hr=>⟨by have:=(okRul_iff.1 (h.2 r hr)).1;omega,by have:=okRul_p (h.2 r hr);omega⟩⟩
def sizeR (r:Rul):Prop:=(∀ s∈r.f,s.size≤9223372036854775807)∧∀ s∈r.p,s.size≤9223372036854775807
theorem rules39:Sound Tryz.prog 39 id (gsca (args1 ruURd fun rs=>∀ r∈rs,sizeR r) fun rs v=>v = .bool (okRuls rs)):=by
 refine comp39.gsca (Tab.cons 66 _ texts66 body66 (Tab.nil _)) (fun args G s h=>?_) (fun args G rs h=>?_)
 ·obtain ⟨v,rfl,_⟩:=h;simp
 ·obtain ⟨v,rfl,⟨a,n,c,rfl,hl,hn⟩,hs⟩:=h
  have hlen:=hl.len
  have hmx:=Nat.le_trans hn maxLen_lt
  (conv=>whnf)
  refine LoopP.of { α:=Nat,fr:=fun x=>[(0, .v (.slice a n c)),(3, .v (I x))],H:=fun _=>[],ok:=fun i _=>i≤rs.length∧∀ j < i,okRul (rs.getD j default) = true,m:=fun x=>rs.length - x }
   0 (HeadP.of [] ⟨rfl,rfl,trivial⟩ trivial) ⟨Nat.zero_le _,fun j hj=>by omega⟩ (fun _=>⟨rfl,rfl⟩) (fun (i:Nat) G' hG hx=>W.mk ?_)
  obtain ⟨hi,hx⟩:=hx
  dsimp only
  (conv=>whnf)
  refine IteP.mk (fun hlt=>W.mk ?_) (fun hge=>W.mk ?_)<;>(conv=>whnf)
  ·have h1:i < rs.length:=by omega
   obtain ⟨cs,c1,c2,c3⟩:=(SlR.grow (G:=G) (G':=G') (fun cs x h=>RuU.grow cs x hG h) hl hG).at_ i h1
   have hgd:rs.getD i default = rs[i]:=by simp [h1]
   have hsz:=hs _ (List.getElem_mem h1)
   have bad:okRul (rs.getD i default) = false→okRuls rs = false:=fun h=>by rw [okRuls,all_f h1 h,Bool.and_false]
   rw [hgd] at bad
   have nxt:okRul rs[i] = true→∀ j < i + 1,okRul (rs.getD j default) = true:=fun ht j hj=>by
    rcases Nat.lt_or_eq_of_le (Nat.le_of_lt_succ hj) with h | h
    ·exact hx j h
    ·subst h;rw [hgd];exact ht
   generalize rs[i] = r at c3 hsz bad nxt
   obtain ⟨f,p,rfl,hf,hp⟩:=c3
   obtain ⟨fa,fn,fc,rfl,_⟩:=id hf
   obtain ⟨pa,pn,pc,rfl,_⟩:=id hp
   repeat' (first | (refine ob ?_ ?_;(first | trivial | omega | (simp only [inR];omega) | exact ble (by rfl) | exact SlR.some ‹_› (by omega));(conv=>whnf)) | (first | (refine ra ‹_› (by rfl) ?_;(conv=>whnf)) | (refine rb ‹_› (by rfl) ?_;(conv=>whnf)) | (refine rc ‹_› (by rfl) ?_;(conv=>whnf)) | (refine rd ‹_› (by rfl) ?_;(conv=>whnf))))
   refine ScaP.g (ok3 (slURd strE) intRd intRd fun l _ _=>∀ s∈l,s.size≤9223372036854775807) (x:=(r.f,1,4)) ⟨_,_,_,rfl,hf,rfl,rfl,hsz.1⟩ (fun v hv=>W.mk ?_)
   subst hv
   dsimp only
   (conv=>whnf)
   refine ForkP.mk (fun t1=>W.mk ?_) (fun t1=>W.mk ?_)<;>(conv=>whnf)
   ·repeat' (first | (refine ob ?_ ?_;(first | trivial | omega | (simp only [inR];omega) | exact ble (by rfl) | exact SlR.some ‹_› (by omega));(conv=>whnf)) | (first | (refine ra ‹_› (by rfl) ?_;(conv=>whnf)) | (refine rb ‹_› (by rfl) ?_;(conv=>whnf)) | (refine rc ‹_› (by rfl) ?_;(conv=>whnf)) | (refine rd ‹_› (by rfl) ?_;(conv=>whnf))))
    refine ScaP.g (ok3 (slURd strE) intRd intRd fun l _ _=>∀ s∈l,s.size≤9223372036854775807) (x:=(r.p,0,4)) ⟨_,_,_,rfl,hp,rfl,rfl,hsz.2⟩ (fun v hv=>W.mk ?_)
    subst hv
    dsimp only
    (conv=>whnf)
    refine ForkP.mk (fun t2=>W.mk ?_) (fun t2=>W.mk ?_)<;>(conv=>whnf)
    ·repeat' (refine ob ?_ ?_;(first | trivial | omega | (simp only [inR];omega) | exact ble (by rfl) | exact SlR.some ‹_› (by omega));(conv=>whnf))
     exact RoundP.of (i + 1) (HeadP.of [] ⟨rfl,rfl,trivial⟩ trivial) ⟨h1,nxt (by rw [okRul];exact Bool.and_eq_true_iff.2 ⟨t1,t2⟩)⟩ (by simp only;omega)
    ·refine FinP.mk (congrArg Value.bool ?_)
     rw [bad (by rw [okRul,t2,Bool.and_false])]
   ·refine FinP.mk (congrArg Value.bool ?_)
    rw [bad (by rw [okRul,t1];rfl)]
  ·have:i = rs.length:=by omega
   subst this
   have hall:rs.all okRul = true:=all_t (d:=default) fun j hj=>hx j hj
   refine IteP.mk (fun h10=>W.mk ?_) (fun h10=>W.mk ?_)<;>(conv=>whnf)<;>refine FinP.mk (congrArg Value.bool ?_)<;>rw [okRuls,hall,Bool.and_true]<;>simp<;>omega
end Go.Proofs.YtfppbjfbghaclaaGreat

namespace Go.Proofs.YtfppbjfbghaclaaGreat
open Go.Pal Go.RowKit
set_option maxRecDepth 100000
theorem und59c:Tryz.prog.underlying 59 = some (.slice 9):=by kernel_rfl
theorem clone64:Sound Tryz.prog 64 id (gown 9 1 (args1 (slRd strE) fun l=>l.length≤1000) fun l n vs=>Row strE l n vs):=by
 refine comp64.gown (Tab.nil _) (ok1 _ _) (fun args G s h=>?_) (fun args G l h=>?_)
 ·obtain ⟨v,rfl,_⟩:=h;simp
 ·obtain ⟨v,rfl,⟨a,n,c,rfl,hl,hn⟩,hb⟩:=h
  have hlen:=hl.len
  obtain ⟨q1,q2,q3⟩:=hl.all
  (conv=>whnf)
  refine PurP.of _ (pur_sl_nil und59c a n c 0 0) (W.mk ?_)
  (conv=>whnf)
  refine ForkP.mk (fun hf=>W.mk ?_) (fun hf=>W.mk ?_)<;>(conv=>whnf)
  ·refine OwnFin.mk ?_
   have:l = []:=by
    by_cases h0:n = 0
    ·exact List.eq_nil_of_length_eq_zero (by omega)
    ·have:=hl.some h0;rw [this] at hf;cases hf
   subst this;exact Row.nil
  ·refine OblP.mk (fun h=>hl.some h) (W.mk ?_);(conv=>whnf)
   refine RdP.at q1 q2 (W.mk ?_);(conv=>whnf)
   refine OblP.mk q3 (W.mk ?_);(conv=>whnf)
   refine OblP.mk rfl (W.mk ?_);(conv=>whnf)
   refine OblP.mk (by omega) (W.mk ?_);(conv=>whnf)
   refine OwnFin.mk ⟨rfl,rfl,rfl, ?_⟩
   simp only [Nat.zero_add,List.nil_append]
   exact Row.of_all l hlen
def styleQ (d:Dr) (rs:List Rul) (v:Value) (G:Hp):Prop :=
 ((validF d = false∨okRuls rs = false)∧v = .tuple #[.slice none 0 0,I 1]) ∨
 validF d = true∧okRuls rs = true∧((Styles d rs none∧v = .tuple #[.slice none 0 0,I 3])∨∃ o a n c,Styles d rs (some o)∧v = .tuple #[.slice a n c,I 0]∧spsRd.R G (.slice a n c) o)
theorem styleQ.grow {d:Dr} {rs:List Rul} {v:Value} {G G':Hp} (hg:Grow G G') (h:styleQ d rs v G):styleQ d rs v G':=by
 rcases h with h | ⟨h1,h2,h | ⟨o,a,n,c,h3,h4,h5⟩⟩
 ·exact .inl h
 ·exact .inr ⟨h1,h2, .inl h⟩
 ·exact .inr ⟨h1,h2, .inr ⟨o,a,n,c,h3,h4,spsRd.grow hg h5⟩⟩
theorem visF_le (l:List It):(visF l).length≤l.length:=List.length_filter_le _ _
def SpotI (d:Dr) (rs:List Rul) (S:Sh) (out:List Sp) (si sa:Int):Prop :=
 (si = -1∧sa = -1∧Styles d rs (some out)) ∨
 ∃ i a:Nat,si = i∧sa = a∧i < rs.length∧a < (visF S.its).length∧foundF d (visF S.its) (rs.getD i default) a = true∧∀ r,Run d rs (visF S.its) S.ch i a out r→Styles d rs r
def spotM (n:Nat) (rs:List Rul) (si sa:Int):Nat:=if si < 0 then 0 else 1 + (rs.length - si.toNat) * 1000 + (n - sa.toNat)
set_option maxHeartbeats 2000000 in
theorem style37 (d:Dr) (rs:List Rul):Sound Tryz.prog 37 id (.hp (fun args p G=>∃ w k rv,args = [.agg #[w,k],rv]∧SlV woE G w d.ws∧SlV intE G k d.ks∧rusRd.R G rv rs) fun _ p v p' G=>styleQ d rs v G):=by
 refine comp37.hp (Tab.cons 63 _ none63 body63 (Tab.cons 64 _ clone64 body64 (Tab.nil _))) (fun args p G h=>?_) (fun args p v p' G G' hg h=>h.grow hg) (fun args p G h=>?_)
 ·obtain ⟨w,k,rv,rfl,_⟩:=h;simp
 ·obtain ⟨w,k,rv,rfl,hw,hk,hrv⟩:=h
  obtain ⟨wa,wn,wc,rfl,_,_⟩:=id hw
  obtain ⟨ka,kn,kc,rfl,_,_⟩:=id hk
  obtain ⟨ra,rn,rc,rfl,hrl,hrn⟩:=id hrv
  have hrlen:=hrl.len
  (conv=>whnf)
  refine CallH.mk _ (valid53 d) body53 (W.mk ?_)
  (conv=>whnf)
  refine HpcP.mk ⟨_,_,rfl,hw,hk⟩ (fun v p1 G1 hg1 hq=>W.mk ?_)
  obtain ⟨rfl,hk1⟩:=hq
  cases hv:validF d with
  | false =>
   (conv=>whnf)
   refine ForkP.mk (fun h=>by cases h) (fun _=>W.mk ?_)
   (conv=>whnf)
   refine NmP.mk ⟨[],W.mk ?_⟩
   (conv=>whnf)
   refine FinHp.of rfl ?_
   exact .inl ⟨.inl hv,rfl⟩
  | true =>
   (conv=>whnf)
   refine ForkP.mk (fun _=>W.mk ?_) (fun h=>by cases h)
   (conv=>whnf)
   refine IteP.mk (fun h10=>W.mk ?_) (fun h10=>W.mk ?_)<;>(conv=>whnf)
   ·have hno:okRuls rs = false:=by rw [okRuls,decide_eq_false (by omega)];rfl
    refine NmP.mk ⟨[],W.mk ?_⟩
    (conv=>whnf)
    refine FinHp.of rfl ?_
    exact .inl ⟨.inr hno,rfl⟩
   obtain ⟨raw,hraw,hrawl,hrawo⟩:=raws (rusRd.grow hg1 hrv)
   refine CallH.mk _ (all60 (judge58 raw rs hrawl)) body60 (W.mk ?_)
   (conv=>whnf)
   refine HpcP.mk ⟨_,rfl, .inl hraw,hrawo⟩ (fun v p2 G2 hg2 hq=>W.mk ?_)
   obtain ⟨hq,hk2⟩:=hq
   rcases hq with ⟨rfl,hf,_⟩ | ⟨rfl,j,hj,hbj,_⟩
   rotate_left
   ·have hno:okRuls rs = false:=by rw [okRuls,all_f (by omega) hbj,Bool.and_false]
    (conv=>whnf)
    refine ForkP.mk (fun h=>by cases h) (fun _=>W.mk ?_)
    (conv=>whnf)
    refine NmP.mk ⟨[],W.mk ?_⟩
    (conv=>whnf)
    refine FinHp.of rfl ?_
    exact .inl ⟨.inr hno,rfl⟩
   have hok:okRuls rs = true:=by rw [okRuls,decide_eq_true (by omega),all_t (d:=default) (fun j hj=>hf j (by omega))];rfl
   have hokr:∀ i < rs.length,okRul (rs.getD i default) = true:=fun i hi=>hf i (by omega)
   (conv=>whnf)
   refine ForkP.mk (fun _=>W.mk ?_) (fun h=>by cases h)
   (conv=>whnf)
   have hw60:=valid_ws hv
   obtain ⟨hr10,hfew⟩:=okRuls_few hok
   have hrs9:rs.length≤1000∧∀ r∈rs,r.f.length≤1000:=⟨by omega,fun r hr=>(hfew r hr).1⟩
   refine CallH.mk _ (begin61 d (by omega)) body61 (W.mk ?_)
   (conv=>whnf)
   refine HpcP.mk ⟨_,_,rfl,hw.grow (hg1.trans hg2),hk.grow (hg1.trans hg2)⟩ (fun v p3 G3 hg3 hq=>W.mk ?_)
   obtain ⟨_,b,rfl,hsh⟩:=hq
   have hG3:=hg1.trans (hg2.trans hg3)
   have hcb:=cnt_begin hw60
   (conv=>whnf)
   refine CallH.mk _ (next62 b d (beginS d) (hcb.small (by omega)) rs hrs9 0 0 (by omega) (by omega)) body62 (W.mk ?_)
   (conv=>whnf)
   refine HpcP.mk ⟨_,rfl,rusRd.grow hG3 hrv,hsh⟩ (fun v p4 G4 hg4 hq=>W.mk ?_)
   obtain ⟨hnq,rfl⟩:=hq
   obtain ⟨si,sa,rfl,hspot⟩:∃ si sa,v = .agg #[I si,I sa]∧SpotI d rs (beginS d) [] si sa:=by
    rcases hnq with ⟨rfl,h⟩ | ⟨i',a',rfl,h1,h2,h3,h4,h5⟩
    ·exact ⟨_,_,rfl, .inl ⟨rfl,rfl,h 0 []⟩⟩
    ·exact ⟨_,_,rfl, .inr ⟨i',a',rfl,rfl,h1,h2,h3,fun r h=>h5 0 [] r h⟩⟩
   (conv=>whnf)
   repeat' (refine ob ?_ ?_;(first | trivial | omega | (simp only [inR];omega) | exact ble (by rfl) | exact SlR.some ‹_› (by omega));(conv=>whnf))
   have hG4:=hG3.trans hg4
   refine LoopP.of { α:=Int × Int × Sh × Hp × List Sp × Nat × List Value,fr:=fun x=>[(1, .v (.slice ra rn rc)),(7, .v (ptr b)),(8, .c (.row 1023 x.2.2.2.2.2.1)),(9, .c (.ptr 1028 0))],H:=fun x=>[(0, .heap x.2.2.2.1),(1023, .row none x.2.2.2.2.2.1 x.2.2.2.2.2.2 76 4),(1028, .cells .anon [.val (I x.1), .val (I x.2.1)] 125)],ok:=fun x G=>x.2.2.1.cnt x.2.2.2.2.1.length∧x.2.2.2.2.1.length≤80∧ShH x.2.2.2.1 G b d x.2.2.1∧RowSp G x.2.2.2.2.1 x.2.2.2.2.2.1 x.2.2.2.2.2.2∧SpotI d rs x.2.2.1 x.2.2.2.2.1 x.1 x.2.1,m:=fun x=>spotM (visF x.2.2.1.its).length rs x.1 x.2.1 }
    (si,sa,beginS d,p4,[],0,[]) (HeadP.of [(1023,none)] ⟨rfl,rfl,rfl,rfl,trivial⟩ ⟨rfl,rfl,rfl,trivial⟩) ⟨hcb,Nat.zero_le _,hsh.grow hg4,⟨rfl,rfl,fun i h=>absurd h (by simp)⟩,hspot⟩ (fun _=>⟨rfl,rfl⟩) (fun x G5 hg5 hx=>W.mk ?_)
   clear hspot hnq hsh
   obtain ⟨si,sa,S,q,out,m,vs⟩:=x
   obtain ⟨hcnt,ho80,hsh,hr,hspot⟩:=hx
   dsimp only at hcnt ho80 hsh hr hspot
   dsimp only
   have hG5:=hG4.trans hg5
   have hm:=hr.1
   (conv=>whnf)
   repeat' (refine ob ?_ ?_;(first | trivial | omega | (simp only [inR];omega) | exact ble (by rfl) | exact SlR.some ‹_› (by omega));(conv=>whnf))
   refine OblP.mk (fun _ _=>rfl) (W.mk ?_)
   (conv=>whnf)
   rcases hspot with ⟨rfl,rfl,hfin⟩ | ⟨i,a,rfl,rfl,h1,h2,h3,hback⟩
   ·refine PurP.of _ (pur_ne2 (P:=Tryz.prog) (t:=125) (e:=3) (by kernel_rfl) (by kernel_rfl) (by kernel_rfl) (by kernel_rfl) (by kernel_rfl) (by kernel_rfl) (by kernel_rfl) (-1) (-1) (-1) (-1)) (W.mk ?_)
    (conv=>whnf)
    refine ForkP.mk (fun h=>absurd h (by decide)) (fun _=>W.mk ?_)
    (conv=>whnf)
    refine NmP.mk ⟨[1023], ?_⟩
    (conv=>whnf)
    refine PubP.mk (fun ga gc G6 hg6 hp=>W.mk ?_)
    (conv=>whnf)
    refine W.mk ?_
    (conv=>whnf)
    exact FinHp.of rfl (.inr ⟨hv,hok, .inr ⟨out,_,_,_,hfin,rfl,(hr.grow hg6).pub hp (by omega)⟩⟩)
   have hsp:=pur_ne2 (P:=Tryz.prog) (t:=125) (e:=3) (by kernel_rfl) (by kernel_rfl) (by kernel_rfl) (by kernel_rfl) (by kernel_rfl) (by kernel_rfl) (by kernel_rfl) (i:Int) (a:Int) (-1) (-1)
   refine PurP.of _ hsp (W.mk ?_)
   (conv=>whnf)
   refine ForkP.mk (fun _=>W.mk ?_) (fun h=>absurd h (by simp))
   (conv=>whnf)
   obtain ⟨cs,c1,c2,c3⟩:=(SlR.grow (G:=G) (G':=G5) (fun cs x h=>RuC.grow cs x hG5 h) hrl hG5).at_ i h1
   have hgr:rs.getD i default = rs[i]:=by simp [h1]
   rw [← hgr] at c3
   have hokr1:=hokr i h1
   generalize hrr:rs.getD i default = r at c3 hokr1 h3
   obtain ⟨f,pt,rfl,hfv,hpv⟩:=id c3
   obtain ⟨fa,fn,fc,rfl,hfl,_⟩:=id hfv
   obtain ⟨pa,pn,pc,rfl,hpl,_⟩:=id hpv
   have hflen:=hfl.len
   have hplen:=hpl.len
   have hf4:=(okRul_iff.1 hokr1).1
   have hp4:=okRul_p hokr1
   repeat' (refine ob ?_ ?_;(first | trivial | omega | (simp only [inR];omega) | exact ble (by rfl) | exact SlR.some ‹_› (by omega));(conv=>whnf))
   refine RdhP.g c2 rfl (W.mk ?_)
   (conv=>whnf)
   repeat' (refine ob ?_ ?_;(first | trivial | omega | (simp only [inR];omega) | exact ble (by rfl) | exact SlR.some ‹_› (by omega));(conv=>whnf))
   refine OwnP.g (ok1 (slRd strE) fun l=>l.length≤1000) (x:=r.p) ⟨_,rfl,hpv,by show r.p.length≤_;omega⟩ (Grow.refl _) (fun m0 vs0 G6 hg6 hr0=>W.mk ?_)
   have hm0:=hr0.n
   (conv=>whnf)
   repeat' (refine ob ?_ ?_;(first | trivial | omega | (simp only [inR];omega) | exact ble (by rfl) | exact SlR.some ‹_› (by omega));(conv=>whnf))
   refine IteP.mk (fun h80=>W.mk ?_) (fun h80=>W.mk ?_)<;>(conv=>whnf)
   ·refine NmP.mk ⟨[],W.mk ?_⟩
    (conv=>whnf)
    refine FinHp.of rfl (.inr ⟨hv,hok, .inl ⟨hback _ (.full h1 h2 (by rw [hrr];exact h3) (by omega)),rfl⟩⟩)
   refine PubP.mk (fun ca cc G7 hg7 hpc=>W.mk ?_)
   have hput:=hr0.pub hpc (by omega)
   (conv=>whnf)
   repeat' (refine ob ?_ ?_;(first | trivial | omega | (simp only [inR];omega) | exact ble (by rfl) | exact SlR.some ‹_› (by omega));(conv=>whnf))
   obtain ⟨S1,e1,e2,e3⟩:=change_hit hcnt.2.2.1 hokr1 h3
   have hcnt1:=cnt_step hcnt (show stepF d S (stepR r a) = some S1 from e1)
   have hfo:=(found_iff.1 h3).1
   have hvl1:=chV_len (c:=S.ch) hfo
   have hG67:=hg6.trans hg7
   have hspc:SpC G7 [I 0,I (a:Int),I (fn:Int), .slice ca m0 cc] (stepR r a):=⟨_,by rw [← hflen];rfl,hput⟩
   have hst:=(hr.grow hG67).snoc rfl hspc
   refine CallH.mk _ (change65 b d S S1 (hcnt.small ho80) (stepR r a) e1) body65 (W.mk ?_)
   (conv=>whnf)
   refine HpcP.mk ⟨_,rfl,hspc,hsh.grow hG67⟩ (fun v q2 G8 hg8 hq=>W.mk ?_)
   obtain ⟨rfl,hsh8,_⟩:=hq
   have ho81:out.length + 1≤80:=by omega
   have ha9:a≤10000:=by have:=hcnt.1;have:=visF_le S.its;omega
   (conv=>whnf)
   repeat' (refine ob ?_ ?_;(first | trivial | omega | (simp only [inR];omega) | exact ble (by rfl) | exact SlR.some ‹_› (by omega));(conv=>whnf))
   refine CallH.mk _ (next62 b d S1 (hcnt1.small ho81) rs hrs9 i (a + pn) (by omega) (by omega)) body62 (W.mk ?_)
   (conv=>whnf)
   refine HpcP.mk ⟨_,rfl,rusRd.grow (hG5.trans (hG67.trans hg8)) hrv,hsh8⟩ (fun v q3 G9 hg9 hq=>W.mk ?_)
   obtain ⟨hnq,rfl⟩:=hq
   obtain ⟨si,sa,rfl,hspot,hlt⟩:∃ si sa,v = .agg #[I si,I sa]∧SpotI d rs S1 (out++[stepR r a]) si sa∧spotM (visF S1.its).length rs si sa < spotM (visF S.its).length rs i a:=by
    have hm2:spotM (visF S.its).length rs i a = 1 + (rs.length - i) * 1000 + ((visF S.its).length - a):=by
     unfold spotM;rw [if_neg (by omega),Int.toNat_natCast,Int.toNat_natCast]
    have hnx:=fun (r2:Option (List Sp)) (h:Run d rs (visF S1.its) S1.ch i (a + pn) (out++[stepR r a]) r2)=>hback r2 (.hit h1 h2 (by rw [hrr];exact h3) (by omega) (by rw [hrr, ← e2, ← e3,hplen];exact h))
    rcases hnq with ⟨rfl,h⟩ | ⟨i',a',rfl,k1,k2,k3,k4,k5⟩
    ·refine ⟨_,_,rfl, .inl ⟨rfl,rfl,hnx _ (h _ _)⟩, ?_⟩
     rw [hm2]
     unfold spotM;rw [if_pos (by decide)];omega
    ·refine ⟨_,_,rfl, .inr ⟨i',a',rfl,rfl,k1,k2,k3,fun r2 h=>hnx _ (k5 _ _ _ h)⟩, ?_⟩
     rw [hm2]
     unfold spotM;rw [if_neg (by omega),Int.toNat_natCast,Int.toNat_natCast]
     have hv9:=visF_le S1.its
     have:=hcnt1.1
     rw [e2] at k2 hv9 ⊢
     have hmul:(rs.length - i') * 1000 + (if i = i' then 0 else 1000)≤(rs.length - i) * 1000:=by split<;>omega
     split at hmul<;>omega
   (conv=>whnf)
   repeat' (refine ob ?_ ?_;(first | trivial | omega | (simp only [inR];omega) | exact ble (by rfl) | exact SlR.some ‹_› (by omega));(conv=>whnf))
   refine RoundP.of (si,sa,S1,q3,out++[stepR r a],m + 1,_) (HeadP.of [(1023,some 1059),(1028,some 1078)] ⟨rfl,rfl,rfl,rfl,trivial⟩ ⟨rfl,rfl,rfl,trivial⟩) ⟨by simpa using hcnt1,by simp;omega,hsh8.grow hg9,hst.grow (hg8.trans hg9),hspot⟩ hlt
theorem style37r:Sound Tryz.prog 37 id (grel (args2 drRd rusRd fun _ _=>True) fun x v G=>styleQ x.1 x.2 v G):=by
 refine Sound.relG (ok2 _ _ _) (fun x v G G' hg h=>h.grow hg) fun x=>?_
 obtain ⟨d,rs⟩:=x
 refine Sound.hpRel (style37 d rs) (fun args G h=>?_) (fun args v p' G' G'' hg hp h=>h.grow hg) (fun args v G G' hg h=>h.grow hg)
 obtain ⟨v,w,rfl,⟨w1,k1,rfl,h1,h2⟩,h3,_⟩:=h
 exact ⟨w1,k1,_,rfl,h1,h2,h3⟩
end Go.Proofs.YtfppbjfbghaclaaGreat

namespace Go.Proofs.YtfppbjfbghaclaaGreat
open Go.Pal Go.RowKit
set_option maxRecDepth 100000
theorem found67:Sound Tryz.prog 67 id (gsca (args4 drRd (slRd itE) (slRd strE) intRd fun d l f a=>validF d = true∧l.length≤10000∧f.length≤1000∧0≤a∧a≤100000) fun x v=>v = .bool (foundF x.1 (visF x.2.1) ⟨x.2.2.1,[]⟩ x.2.2.2.toNat)):=by
 refine comp67.gsca (Tab.cons 21 _ visible21 body21 (Tab.cons 74 _ prot74 body74 (Tab.nil _))) (fun args G s h=>?_) (fun args G x h=>?_)
 ·obtain ⟨u,v,w,z,rfl,_⟩:=h;simp
 ·obtain ⟨d,l,f,at_⟩:=x
  obtain ⟨_,_,_,_,rfl,hdr,hlv,hfv,rfl,hv,hl9,hf9,ha0,ha9⟩:=h
  dsimp only at hdr hlv hfv hv hl9 hf9 ha0 ha9
  obtain ⟨a,rfl⟩:∃ a:Nat,at_ = (a:Int):=⟨at_.toNat,by omega⟩
  obtain ⟨w,k,rfl,hw,hk⟩:=id hdr
  obtain ⟨wa,wn,wc,rfl,_,_⟩:=id hw
  obtain ⟨ka,kn,kc,rfl,_,_⟩:=id hk
  obtain ⟨la,ln,lc,rfl,hl,hln⟩:=id hlv
  obtain ⟨fa,fn,fc,rfl,hf,hfn⟩:=id hfv
  have hllen:=hl.len
  have hflen:=hf.len
  dsimp only
  rw [Int.toNat_natCast]
  (conv=>whnf)
  refine RelP.g (ok1 (slRd itE) fun l=>l.length≤100000) (x:=l) ⟨_,rfl,hlv,by show l.length≤_;omega⟩ (Grow.refl _) (fun v G1 hg1 hq=>W.mk ?_)
  obtain ⟨va,vn,vc,rfl,hvl,hvn⟩:=hq
  have hvlen:=hvl.len
  have hvis:=places_len l
  have hple:=placesN_le l l.length
  have hpl9:vn≤10000:=by have:(placesF l).length≤l.length:=hple;omega
  (conv=>whnf)
  repeat' (refine ob ?_ ?_;(first | trivial | omega | (simp only [inR];omega) | exact ble (by rfl) | exact SlR.some ‹_› (by omega));(conv=>whnf))
  refine IteP.mk (fun h0=>W.mk ?_) (fun h0=>W.mk ?_)<;>(conv=>whnf)
  ·refine FinP.mk (congrArg Value.bool ?_)
   symm
   rw [foundF,decide_eq_false (by show ¬ a + f.length≤_;omega),Bool.false_and]
  refine LoopP.of { α:=Nat,fr:=fun x=>[(1, .v (.slice la ln lc)),(2, .v (.slice fa fn fc)),(3, .v (I a)),(4, .c (.ptr 0 0)),(9, .v (.slice va vn vc)),(10, .v (I x))],H:=fun _=>[(0, .cells .anon [.val (.slice wa wn wc), .val (.slice ka kn kc)] 25)],ok:=fun i _=>i≤f.length∧∀ j < i,hitF d (visF l) ⟨f,[]⟩ a j = true,m:=fun x=>f.length - x }
   0 (HeadP.of [] ⟨rfl,rfl,rfl,rfl,rfl,rfl,trivial⟩ ⟨rfl,trivial⟩) ⟨Nat.zero_le _,fun j hj=>by omega⟩ (fun _=>⟨rfl,rfl⟩) (fun (i:Nat) G2 hg2 hx=>W.mk ?_)
  obtain ⟨hi,hx⟩:=hx
  dsimp only
  (conv=>whnf)
  refine IteP.mk (fun hlt=>W.mk ?_) (fun hge=>W.mk ?_)<;>(conv=>whnf)
  ·have h1:i < f.length:=by omega
   have hvl2:=SlR.grow (G:=G1) (G':=G2) (fun _ _ h=>h) hvl hg2
   have hl2:=SlR.grow (G:=G) (G':=G2) (fun _ _ h=>h) hl (hg1.trans hg2)
   have hf2:=SlR.grow (G:=G) (G':=G2) (fun _ _ h=>h) hf (hg1.trans hg2)
   have h2:a + i < (placesF l).length:=by omega
   have hva:=visF_at h2
   have hpg:(placesF l).getD (a + i) 0 = (placesF l)[a + i]:=by simp [h2]
   have hpm:=placesN_lt (List.getElem_mem h2)
   have hce:=hvl2.el h2
   rw [hpg] at hva
   generalize (placesF l)[a + i] = q at hva hpm hce
   have hci:=hl2.el hpm
   have hgq:l.getD q default = l[q]:=by simp [hpm]
   rw [hgq] at hva
   generalize l[q] = y at hva hci
   have hcf:=hf2.el h1
   have hgf:f.getD i default = f[i]:=by simp [h1]
   have bad:hitF d (visF l) ⟨f,[]⟩ a i = false→foundF d (visF l) ⟨f,[]⟩ a = false:=fun h=>by
    have:(List.range f.length).all (hitF d (visF l) ⟨f,[]⟩ a) = false:=by
     cases hh:(List.range f.length).all (hitF d (visF l) ⟨f,[]⟩ a) with
     | false=>rfl
     | true=>rw [range_all.1 hh i h1] at h;cases h
    show (_ && (List.range f.length).all (hitF d (visF l) ⟨f,[]⟩ a)) = false
    rw [this,Bool.and_false]
   have hhit:hitF d (visF l) ⟨f,[]⟩ a i = (decide (y.t = f[i]) && !protF d y):=by
    rw [hitF,hva]
    show (decide (y.t = f.getD i default) && _) = _
    rw [hgf]
   have nxt:hitF d (visF l) ⟨f,[]⟩ a i = true→∀ j < i + 1,hitF d (visF l) ⟨f,[]⟩ a j = true:=fun ht j hj=>by
    rcases Nat.lt_or_eq_of_le (Nat.le_of_lt_succ hj) with h | h
    ·exact hx j h
    ·subst h;exact ht
   generalize f[i] = s at hcf hhit
   rw [hhit] at bad nxt
   repeat' (first | (refine ob ?_ ?_;(first | trivial | omega | (simp only [inR];omega) | exact ble (by rfl) | exact SlR.some ‹_› (by omega));(conv=>whnf)) | (first | (refine ra ‹_› (by rfl) ?_;(conv=>whnf)) | (refine rb ‹_› (by rfl) ?_;(conv=>whnf)) | (refine rc ‹_› (by rfl) ?_;(conv=>whnf)) | (refine rd ‹_› (by rfl) ?_;(conv=>whnf))))
   refine PurP.of _ (pur_neT y.t s) (W.mk ?_)
   (conv=>whnf)
   refine ForkP.mk (fun ht=>W.mk ?_) (fun ht=>W.mk ?_)<;>(conv=>whnf)
   ·refine FinP.mk (congrArg Value.bool ?_)
    exact (bad (by simp at ht;simp [ht])).symm
   ·have ht:y.t = s:=by simpa using ht
    refine ScaP.g (ok2 drRd itRd fun _ _=>True) (x:=(d,y)) ⟨_,_,rfl,drRd.grow (hg1.trans hg2) hdr,rfl,trivial⟩ (fun v hv2=>W.mk ?_)
    subst hv2
    dsimp only
    rw [refProt_eq hv]
    cases hpr:protF d y with
    | true =>
     (conv=>whnf)
     refine ForkP.mk (fun _=>W.mk ?_) (fun h=>by cases h)
     (conv=>whnf)
     refine FinP.mk (congrArg Value.bool ?_)
     exact (bad (by rw [hpr];simp)).symm
    | false =>
     (conv=>whnf)
     refine ForkP.mk (fun h=>by cases h) (fun _=>W.mk ?_)
     (conv=>whnf)
     repeat' (refine ob ?_ ?_;(first | trivial | omega | (simp only [inR];omega) | exact ble (by rfl) | exact SlR.some ‹_› (by omega));(conv=>whnf))
     exact RoundP.of (i + 1) (HeadP.of [] ⟨rfl,rfl,rfl,rfl,rfl,rfl,trivial⟩ ⟨rfl,trivial⟩) ⟨h1,nxt (by rw [hpr,ht];simp)⟩ (by simp only;omega)
  ·have:i = f.length:=by omega
   subst this
   refine FinP.mk (congrArg Value.bool ?_)
   symm
   rw [foundF,decide_eq_true (by show a + f.length≤_;omega),Bool.true_and]
   exact range_all.2 hx
end Go.Proofs.YtfppbjfbghaclaaGreat

namespace Go.Proofs.YtfppbjfbghaclaaGreat
open Go.Pal Go.RowKit
set_option maxRecDepth 100000
def refStQ (x:Dr × List Rul) (v:Value) (G:Hp):Prop :=
 (Styles x.1 x.2 none∧v = .tuple #[.slice none 0 0, .bool false])∨∃ o a n c,Styles x.1 x.2 (some o)∧v = .tuple #[.slice a n c, .bool true]∧spsRd.R G (.slice a n c) o
theorem refStQ.grow {x:Dr × List Rul} {v:Value} {G G':Hp} (hg:Grow G G') (h:refStQ x v G):refStQ x v G':=by
 rcases h with h | ⟨o,a,n,c,h1,h2,h3⟩
 ·exact .inl h
 ·exact .inr ⟨o,a,n,c,h1,h2,spsRd.grow hg h3⟩
theorem found_f {d:Dr} {v:List It} {r:Rul} {a:Nat}:foundF d v ⟨r.f,[]⟩ a = foundF d v r a:=rfl
theorem okRul_sz {r:Rul} (h:okRul r = true):∀ s∈r.p,s.size≤1000000:=fun s hs=>by
 have h2:=(okRul_iff.1 h).2
 simp only [Bool.and_eq_true,List.all_eq_true] at h2
 have:=h2.2 s hs
 simp only [textF,Bool.and_eq_true,inF,decide_eq_true_eq] at this
 omega
set_option maxHeartbeats 4000000 in
theorem style40:Sound Tryz.prog 40 id (grel (args2 drRd rusRd fun d rs=>validF d = true∧okRuls rs = true) refStQ):=by
 refine comp40.grel (Tab.cons 47 _ begin47 body47 (Tab.cons 21 _ visible21 body21 (Tab.cons 67 _ found67 body67 (Tab.cons 50 _ change50 body50 (Tab.nil _))))) (ok2 _ _ _) (fun args G s h=>?_) (fun x v G G' hg h=>h.grow hg) (fun args G x h=>?_)
 ·obtain ⟨u,v,rfl,_⟩:=h;simp
 ·obtain ⟨d,rs⟩:=x
  obtain ⟨_,_,rfl,hdr,⟨ra,rn,rc,rfl,hrl,hrn⟩,hv,hok⟩:=h
  dsimp only at hdr hrl hv hok
  have hrlen:=hrl.len
  obtain ⟨w,k,rfl,hw,hk⟩:=id hdr
  obtain ⟨wa,wn,wc,rfl,_,_⟩:=id hw
  obtain ⟨ka,kn,kc,rfl,_,_⟩:=id hk
  have hw60:=valid_ws hv
  have hr10:=(okRuls_few hok).1
  have hrul:∀ i < rs.length,okRul (rs.getD i default) = true:=fun i hi=>by
   simp only [okRuls,Bool.and_eq_true,List.all_eq_true] at hok
   have e:rs.getD i default = rs[i]:=by simp [hi]
   rw [e];exact hok.2 _ (List.getElem_mem hi)
  (conv=>whnf)
  refine RelP.g (ok1 drRd fun d=>d.ws.length≤100000) (x:=d) ⟨_,rfl,hdr,by show d.ws.length≤_;omega⟩ (Grow.refl _) (fun v G1 hg1 hq=>W.mk ?_)
  obtain ⟨ia,in_,ic,rfl,hil,hin⟩:=id hq
  (conv=>whnf)
  refine LoopP.of { α:=Nat × Sh × (Option Addr × Nat × Nat) × List Sp × Nat × List Value,fr:=fun x=>[(1, .v (.slice ra rn rc)),(2, .c (.ptr 0 0)),(6, .v (.slice x.2.2.1.1 x.2.2.1.2.1 x.2.2.1.2.2)),(7, .c (.row 6 x.2.2.2.2.1)),(8, .v (I x.1))],H:=fun x=>[(0, .cells .anon [.val (.slice wa wn wc), .val (.slice ka kn kc)] 25),(6, .row none x.2.2.2.2.1 x.2.2.2.2.2 61 4)],ok:=fun x G=>x.1≤rs.length∧x.2.1.cnt x.2.2.2.1.length∧x.2.1.ch = x.2.2.2.1.length∧x.2.2.2.1.length≤80∧SlV itE G (.slice x.2.2.1.1 x.2.2.1.2.1 x.2.2.1.2.2) x.2.1.its∧RowSp G x.2.2.2.1 x.2.2.2.2.1 x.2.2.2.2.2∧∀ r,Run d rs (visF x.2.1.its) x.2.1.ch x.1 0 x.2.2.2.1 r→Styles d rs r,m:=fun x=>rs.length - x.1 }
   (0,beginS d,(ia,in_,ic),[],0,[]) (HeadP.of [(6,none)] ⟨rfl,rfl,rfl,rfl,rfl,trivial⟩ ⟨rfl,rfl,trivial⟩) ⟨Nat.zero_le _,cnt_begin hw60,rfl,Nat.zero_le _,hq,⟨rfl,rfl,fun i h=>absurd h (by simp)⟩,fun r h=>h⟩ (fun _=>⟨rfl,rfl⟩) (fun x G2 hg2 hx=>W.mk ?_)
  obtain ⟨i,S,⟨ja,jn,jc⟩,out,m,vs⟩:=x
  obtain ⟨hi,hcnt,hch,ho80,hits,hr,hback⟩:=hx
  dsimp only at hi hcnt hch ho80 hits hr hback
  dsimp only
  (conv=>whnf)
  refine IteP.mk (fun hlt=>W.mk ?_) (fun hge=>W.mk ?_)<;>(conv=>whnf)
  ·have h1:i < rs.length:=by omega
   refine LoopP.of { α:=Nat × Sh × (Option Addr × Nat × Nat) × List Sp × Nat × List Value,fr:=fun x=>[(1, .v (.slice ra rn rc)),(2, .c (.ptr 0 0)),(6, .v (.slice x.2.2.1.1 x.2.2.1.2.1 x.2.2.1.2.2)),(7, .c (.row 6 x.2.2.2.2.1)),(8, .v (I i)),(9, .v (I x.1))],H:=fun x=>[(0, .cells .anon [.val (.slice wa wn wc), .val (.slice ka kn kc)] 25),(6, .row none x.2.2.2.2.1 x.2.2.2.2.2 61 4)],ok:=fun x G=>x.1≤(visF x.2.1.its).length∧x.2.1.cnt x.2.2.2.1.length∧x.2.1.ch = x.2.2.2.1.length∧x.2.2.2.1.length≤80∧SlV itE G (.slice x.2.2.1.1 x.2.2.1.2.1 x.2.2.1.2.2) x.2.1.its∧RowSp G x.2.2.2.1 x.2.2.2.2.1 x.2.2.2.2.2∧∀ r,Run d rs (visF x.2.1.its) x.2.1.ch i x.1 x.2.2.2.1 r→Styles d rs r,m:=fun x=>(visF x.2.1.its).length - x.1 }
    (0,S,(ja,jn,jc),out,m,vs) (HeadP.of [] ⟨rfl,rfl,rfl,rfl,rfl,rfl,trivial⟩ ⟨rfl,rfl,trivial⟩) ⟨Nat.zero_le _,hcnt,hch,ho80,hits,hr,hback⟩ (fun _=>⟨rfl,rfl⟩) (fun x G3 hg3 hx=>W.mk ?_)
   obtain ⟨a,S,⟨ja,jn,jc⟩,out,m,vs⟩:=x
   obtain ⟨ha,hcnt,hch,ho80,hits,hr,hback⟩:=hx
   dsimp only at ha hcnt hch ho80 hits hr hback
   dsimp only
   obtain ⟨n1,n2,n3,n4⟩:=id hcnt
   have hG3:=hg1.trans (hg2.trans hg3)
   (conv=>whnf)
   refine RelP.g (ok1 (slRd itE) fun l=>l.length≤100000) (x:=S.its) ⟨_,rfl,hits,by show S.its.length≤_;omega⟩ (Grow.refl _) (fun v G4 hg4 hq4=>W.mk ?_)
   obtain ⟨va,vn,vc,rfl,hvl,hvn⟩:=hq4
   have hvlen:=hvl.len
   have hvis:=places_len S.its
   have hple:(placesF S.its).length≤S.its.length:=placesN_le S.its S.its.length
   (conv=>whnf)
   refine IteP.mk (fun hlt2=>W.mk ?_) (fun hge2=>W.mk ?_)<;>(conv=>whnf)
   ·have h2:a < (visF S.its).length:=by omega
    have hG4:=hG3.trans hg4
    obtain ⟨cs,c1,c2,c3⟩:=(SlR.grow (G:=G) (G':=G4) (fun cs x h=>RuC.grow cs x hG4 h) hrl hG4).at_ i h1
    have hgr:rs.getD i default = rs[i]:=by simp [h1]
    rw [← hgr] at c3
    have hokr:=hrul i h1
    have hrun:=fun r=>hback r
    generalize hrr:rs.getD i default = r at c3 hokr
    obtain ⟨f,p,rfl,hfv,hpv⟩:=id c3
    obtain ⟨fa,fn,fc,rfl,hfl,_⟩:=id hfv
    obtain ⟨pa,pn,pc,rfl,hpl,_⟩:=id hpv
    have hflen:=hfl.len
    have hplen:=hpl.len
    have hf4:=(okRul_iff.1 hokr).1
    have hp4:=okRul_p hokr
    repeat' (first | (refine ob ?_ ?_;(first | trivial | omega | (simp only [inR];omega) | exact ble (by rfl) | exact SlR.some ‹_› (by omega));(conv=>whnf)) | (first | (refine ra ‹_› (by rfl) ?_;(conv=>whnf)) | (refine rb ‹_› (by rfl) ?_;(conv=>whnf)) | (refine rc ‹_› (by rfl) ?_;(conv=>whnf)) | (refine rd ‹_› (by rfl) ?_;(conv=>whnf))))
    refine ScaP.g (ok4 drRd (slRd itE) (slRd strE) intRd fun d l f a=>validF d = true∧l.length≤10000∧f.length≤1000∧0≤a∧a≤100000) (x:=(d,S.its,r.f,(a:Int))) ⟨_,_,_,_,rfl,drRd.grow hG4 hdr,hits.grow hg4,hfv,rfl,hv,by show S.its.length≤_;omega,by show r.f.length≤_;omega,by show (0:Int)≤(a:Int);omega,by show (a:Int)≤_;omega⟩ (fun v hv2=>W.mk ?_)
    dsimp only at hv2
    rw [Int.toNat_natCast,found_f] at hv2
    subst hv2
    cases hfo:foundF d (visF S.its) r a with
    | false =>
     (conv=>whnf)
     refine ForkP.mk (fun h=>by cases h) (fun _=>W.mk ?_)
     (conv=>whnf)
     repeat' (refine ob ?_ ?_;(first | trivial | omega | (simp only [inR];omega) | exact ble (by rfl) | exact SlR.some ‹_› (by omega));(conv=>whnf))
     refine RoundP.of (a + 1,S,(ja,jn,jc),out,m,vs) (HeadP.of [] ⟨rfl,rfl,rfl,rfl,rfl,rfl,trivial⟩ ⟨rfl,rfl,trivial⟩) ⟨h2,hcnt,hch,ho80,hits.grow hg4,hr.grow hg4,fun q h=>hback q (.skip h1 h2 (by rw [hrr];exact hfo) h)⟩ (by show (visF S.its).length - (a + 1) < (visF S.its).length - a;omega)
    | true =>
     (conv=>whnf)
     refine ForkP.mk (fun _=>W.mk ?_) (fun h=>by cases h)
     (conv=>whnf)
     have hm:=hr.1
     repeat' (first | (refine ob ?_ ?_;(first | trivial | omega | (simp only [inR];omega) | exact ble (by rfl) | exact SlR.some ‹_› (by omega));(conv=>whnf)) | (first | (refine ra ‹_› (by rfl) ?_;(conv=>whnf)) | (refine rb ‹_› (by rfl) ?_;(conv=>whnf)) | (refine rc ‹_› (by rfl) ?_;(conv=>whnf)) | (refine rd ‹_› (by rfl) ?_;(conv=>whnf))))
     have hst:RowSp G4 (out++[stepR r a]) (m + 1) _:=(hr.grow hg4).snoc (us:=[I 0,I (a:Int),I (fn:Int), .slice pa pn pc]) rfl ⟨_,by rw [← hflen];rfl,hpv⟩
     refine IteP.mk (fun h80=>W.mk ?_) (fun h80=>W.mk ?_)<;>(conv=>whnf)
     ·refine FinP.mk (.inl ⟨hback _ (.full h1 h2 (by rw [hrr];exact hfo) (by omega)),rfl⟩)
     obtain ⟨S1,e1,e2,e3⟩:=change_hit n3 hokr hfo
     have hcnt1:=cnt_step hcnt (show stepF d S (stepR r a) = some S1 from e1)
     rw [changeF_ref hv] at e1
     refine RelP.g (ok4 drRd (slRd itE) spRd intRd fun _ l x _=>l.length≤10000∧x.put.length≤1000∧∀ s∈x.put,s.size≤1000000) (x:=(d,S.its,stepR r a,S.ch + 1)) ⟨_,_,_,_,rfl,drRd.grow hG4 hdr,hits.grow hg4,⟨_,rfl,_,by rw [← hflen];rfl,hpv⟩,by rw [hch, ← hm];rfl,by show S.its.length≤_;omega,by show r.p.length≤_;omega,okRul_sz hokr⟩ (Grow.refl _) (fun v G5 hg5 hq=>W.mk ?_)
     unfold refChR at hq
     dsimp only at hq
     cases hch2:refChF d S.its (stepR r a) (S.ch + 1) with
     | none=>rw [hch2] at e1;cases e1
     | some its =>
      rw [hch2] at e1 hq
      cases e1
      obtain ⟨lv,rfl,hlv⟩:=hq
      obtain ⟨la,ln,lc,rfl,_,_⟩:=id hlv
      (conv=>whnf)
      refine ForkP.mk (fun _=>W.mk ?_) (fun h=>by cases h)
      (conv=>whnf)
      repeat' (first | (refine ob ?_ ?_;(first | trivial | omega | (simp only [inR];omega) | exact ble (by rfl) | exact SlR.some ‹_› (by omega));(conv=>whnf)) | (first | (refine ra ‹_› (by rfl) ?_;(conv=>whnf)) | (refine rb ‹_› (by rfl) ?_;(conv=>whnf)) | (refine rc ‹_› (by rfl) ?_;(conv=>whnf)) | (refine rd ‹_› (by rfl) ?_;(conv=>whnf))))
      have hvl1:=chV_len (c:=S.ch) (found_iff.1 hfo).1
      replace c2:=c2.grow hg5
      repeat' (first | (refine ob ?_ ?_;(first | trivial | omega | (simp only [inR];omega) | exact ble (by rfl) | exact SlR.some ‹_› (by omega));(conv=>whnf)) | (first | (refine ra ‹_› (by rfl) ?_;(conv=>whnf)) | (refine rb ‹_› (by rfl) ?_;(conv=>whnf)) | (refine rc ‹_› (by rfl) ?_;(conv=>whnf)) | (refine rd ‹_› (by rfl) ?_;(conv=>whnf))))
      refine RoundP.of (a + pn,⟨its,S.live++[S.ch + 1],S.ch + 1⟩,(la,ln,lc),out++[stepR r a],m + 1,_) (HeadP.of [(6,some 49)] ⟨rfl,rfl,rfl,rfl,rfl,rfl,trivial⟩ ⟨rfl,rfl,trivial⟩) ⟨?_,by simpa using hcnt1,by simp [hch],by simp;omega,hlv,hst.grow hg5,fun q h=>hback q (.hit h1 h2 (by rw [hrr];exact hfo) (by omega) (by rw [hrr, ← e2,hplen];exact h))⟩ ?_
      ·show a + pn≤(visF _).length
       rw [e2]
       have:=(found_iff.1 hfo).1
       omega
      ·show (visF _).length - (a + pn) < (visF S.its).length - a
       rw [e2]
       have:=(found_iff.1 hfo).1
       omega
   ·repeat' (refine ob ?_ ?_;(first | trivial | omega | (simp only [inR];omega) | exact ble (by rfl) | exact SlR.some ‹_› (by omega));(conv=>whnf))
    exact RoundP.of (i + 1,S,(ja,jn,jc),out,m,vs) (HeadP.of [] ⟨rfl,rfl,rfl,rfl,rfl,trivial⟩ ⟨rfl,rfl,trivial⟩) ⟨h1,hcnt,hch,ho80,hits.grow hg4,hr.grow hg4,fun q h=>hback q (.next h1 (by omega) h)⟩ (by show rs.length - (i + 1) < rs.length - i;omega)
  ·have hin:rs.length≤i:=by omega
   refine PubP.mk (fun ga gc G4 hg4 hp=>W.mk ?_)
   (conv=>whnf)
   exact FinP.mk (.inr ⟨out,_,_,_,hback _ (.done hin),rfl,(hr.grow hg4).pub hp (by have:=hr.1;omega)⟩)
end Go.Proofs.YtfppbjfbghaclaaGreat

namespace Go.Proofs.YtfppbjfbghaclaaGreat
open Go.Pal Go.RowKit Go.ChangeShapes
abbrev cdRu:=cdPair (cdSl cdStr) (cdPair (cdSl cdStr) cdUnit)
theorem o81:Opens Tryz.prog 81 cdRu:=.struct (fs:=[(59,0),(59,1)]) (by kernel_rfl) (by kernel_rfl) (OpensF.cons o59 (OpensF.cons o59 OpensF.nil))
theorem o79:Opens Tryz.prog 79 (cdSl cdRu):=.slice (e:=81) (by kernel_rfl) o81 (by decide)
theorem str_sz {G:Hp} {a:Option Addr} {n c:Nat} {l:List ByteArray} (h:SlR cdStr.k cdStr.R G a n c l):∀ s∈l,s.size≤9223372036854775807:=fun s hs=>by
 obtain ⟨i,hi,rfl⟩:=List.mem_iff_getElem.1 hs
 obtain ⟨_,_,_,_,h4⟩:=h.at_ i hi
 exact Nat.le_trans h4 maxLen_lt
theorem ru_cd {G:Hp} {cs:List Value} {x} (h:cdRu.R G cs x):RuU G cs ⟨x.1,x.2.1⟩∧sizeR ⟨x.1,x.2.1⟩:=by
 obtain ⟨_,_,rfl,⟨a,n,c,rfl,h1,h2⟩,_,_,rfl,⟨a',n',c',rfl,h3,h4⟩,rfl⟩:=h
 exact ⟨⟨_,_,rfl,⟨a,n,c,rfl,sls_cd h1,h2⟩,a',n',c',rfl,sls_cd h3,h4⟩,str_sz h1,str_sz h3⟩
theorem rus_val {G:Hp} {v:Value} (h:∃ x,VR (cdSl cdRu) false G v x):∃ l,ruURd.R G v l∧∀ r∈l,sizeR r:=by
 obtain ⟨x,a,n,c,e,h1,h2⟩:=h
 have e:v = .slice a n c:=(List.cons.inj e).1
 refine ⟨x.map fun y=>⟨y.1,y.2.1⟩,⟨a,n,c,e,SlR.map _ (fun _ _ h=>(ru_cd h).1) h1,h2⟩,fun r hr=>?_⟩
 obtain ⟨y,hy,rfl⟩:=List.mem_map.1 hr
 obtain ⟨i,hi,rfl⟩:=List.mem_iff_getElem.1 hy
 obtain ⟨_,_,_,h4⟩:=h1.at_ i hi
 exact (ru_cd h4).2
end Go.Proofs.YtfppbjfbghaclaaGreat

namespace Go.Proofs.YtfppbjfbghaclaaGreat
open Go.Pal Go.RowKit
set_option maxRecDepth 100000
theorem Run.inv {d:Dr} {rs:List Rul} {P:List It→Int→Nat→Nat→List Sp→Prop} {v:List It} {c:Int} {i a:Nat} {out:List Sp} {r:Option (List Sp)} (h:Run d rs v c i a out r)
  (hn:∀ v c i a out,i < rs.length→v.length≤a→P v c i a out→P v c (i + 1) 0 out)
  (hs:∀ v c i a out,i < rs.length→a < v.length→foundF d v (rs.getD i default) a = false→P v c i a out→P v c i (a + 1) out)
  (hh:∀ v c i a out,i < rs.length→a < v.length→foundF d v (rs.getD i default) a = true→out.length < 80→P v c i a out→P (chV v c (rs.getD i default) a) (c + 1) i (a + (rs.getD i default).p.length) (out++[stepR (rs.getD i default) a])) :
  P v c i a out→(∀ o,r = some o→∃ v c i a,rs.length≤i∧P v c i a o)∧(r = none→∃ v c i a out,P v c i a out∧i < rs.length∧a < v.length∧80≤out.length):=by
 induction h with
 | done h1=>exact fun h=>⟨fun o e=>by cases e;exact ⟨_,_,_,_,h1,h⟩,fun e=>by cases e⟩
 | next h1 h2 _ ih=>exact fun h=>ih (hn _ _ _ _ _ h1 h2 h)
 | skip h1 h2 h3 _ ih=>exact fun h=>ih (hs _ _ _ _ _ h1 h2 h3 h)
 | full h1 h2 h3 h4=>exact fun h=>⟨fun o e=>(by cases e),fun _=>⟨_,_,_,_,_,h,h1,h2,h4⟩⟩
 | hit h1 h2 h3 h4 _ ih=>exact fun h=>ih (hh _ _ _ _ _ h1 h2 h3 h4 h)
def Good (d:Dr) (v:List It) (f:List ByteArray) (j:Nat):Prop:=∀ k < f.length,0≤(v.getD (j + k) default).o∧(v.getD (j + k) default).o ∉ d.ks∧(v.getD (j + k) default).t = f.getD k default
structure StInv (d:Dr) (rs:List Rul) (v:List It) (c:Int) (i a:Nat) (out:List Sp):Prop where
 play:∃ S,v = visF S.its∧c = S.ch∧playF d (beginS d) out 0 = .inr S
 pos:0≤c
 len:out.length≤80
 few:rs.length = 1→i = 0→out.length + (v.length - a)≤60
 none:rs.length = 1→(rs.getD 0 default).p≠[]→∀ j,(i = 0→j < a)→j + (rs.getD 0 default).f.length≤v.length→¬ Good d v (rs.getD 0 default).f j
theorem getD_app {α:Type} (x y:List α) (i:Nat) (d:α):(x++y).getD i d = if i < x.length then x.getD i d else y.getD (i - x.length) d:=by
 simp only [List.getD_eq_getElem?_getD,List.getElem?_append]
 split<;>rfl
theorem style_inv {d:Dr} {rs:List Rul} {r:Option (List Sp)} (hv:validF d = true) (hr:okRuls rs = true) (h:Styles d rs r) :
  (∀ o,r = some o→∃ v c i a,rs.length≤i∧StInv d rs v c i a o)∧(r = none→∃ v c i a out,StInv d rs v c i a out∧i < rs.length∧a < v.length∧80≤out.length):=by
 have hrul:∀ i < rs.length,okRul (rs.getD i default) = true:=fun i hi=>by
  simp only [okRuls,Bool.and_eq_true,List.all_eq_true] at hr
  have e:rs.getD i default = rs[i]:=by simp [hi]
  rw [e];exact hr.2 _ (List.getElem_mem hi)
 refine Run.inv (P:=StInv d rs) h (fun v c i a out h1 h2 k=>?_) (fun v c i a out h1 h2 h3 k=>?_) (fun v c i a out h1 h2 h3 h4 k=>?_) ?_
 ·refine ⟨k.play,k.pos,k.len,fun _ e=>by omega,fun e1 e2 j _ hj hg=>?_⟩
  have hi:i = 0:=by omega
  subst hi
  have:=(okRul_iff.1 (hrul 0 h1)).1.1
  exact k.none e1 e2 j (fun _=>by omega) hj hg
 ·refine ⟨k.play,k.pos,k.len,fun e1 e2=>by have:=k.few e1 e2;omega,fun e1 e2 j hj hl hg=>?_⟩
  have hi:i = 0:=by omega
  subst hi
  rcases Nat.lt_or_eq_of_le (Nat.le_of_lt_succ (hj rfl)) with h | h
  ·exact k.none e1 e2 j (fun _=>h) hl hg
  ·subst h
   have:foundF d v (rs.getD 0 default) j = true:=found_iff.2 ⟨hl,fun q hq=>⟨(hg q hq).2.2,decide_eq_false (hg q hq).2.1⟩⟩
   rw [h3] at this;cases this
 ·obtain ⟨S,rfl,rfl,hp⟩:=k.play
  obtain ⟨S1,c1,c2,c3⟩:=change_hit k.pos (hrul i h1) h3
  have hf:=(found_iff.1 h3).1
  have hcl:=chV_len (c:=S.ch) hf
  have ho:=(okRul_iff.1 (hrul i h1)).1
  refine ⟨⟨S1,c2.symm,c3.symm, ?_⟩,by have:=k.pos;omega,by simp;omega,fun e1 e2=>?_,fun e1 e2 j hj hl hg=>?_⟩
  ·rw [playF_app,hp]
   simp only [playF,stepF,stepR,if_pos] at c1 ⊢
   rw [c1]
  ·have:=k.few e1 e2
   simp only [List.length_append,List.length_singleton]
   omega
  ·have hi:i = 0:=by omega
   subst hi
   have hp1:0 < (rs.getD 0 default).p.length:=List.length_pos_iff.2 e2
   have hput:∀ q,a≤q→q < a + (rs.getD 0 default).p.length→((chV (visF S.its) S.ch (rs.getD 0 default) a).getD q default).o = -1:=fun q q1 q2=>by
    have hta:((visF S.its).take a).length = a:=by rw [List.length_take];omega
    have hlt:q - a < (putF (S.ch + 1) (rs.getD 0 default).p).length:=by rw [putF_len];omega
    rw [chV,getD_app,if_pos (by rw [List.length_append,hta,putF_len];omega),getD_app,if_neg (by omega),hta,List.getD_eq_getElem?_getD,List.getElem?_eq_getElem hlt]
    simp [putF]
   by_cases ja:a≤j
   ·have:=(hg 0 (by omega)).1
    rw [Nat.add_zero,hput j ja (hj rfl)] at this
    omega
   ·by_cases jf:a < j + (rs.getD 0 default).f.length
    ·have:=(hg (a - j) (by omega)).1
     rw [show j + (a - j) = a by omega,hput a (Nat.le_refl _) (by omega)] at this
     omega
    ·refine k.none e1 e2 j (fun _=>by omega) (by omega) fun q hq=>?_
     have:=hg q hq
     have e:(chV (visF S.its) S.ch (rs.getD 0 default) a).getD (j + q) default = (visF S.its).getD (j + q) default:=by
      have hta:((visF S.its).take a).length = a:=by rw [List.length_take];omega
      rw [chV,getD_app,if_pos (by rw [List.length_append,hta];omega),getD_app,if_pos (by omega)]
      simp only [List.getD_eq_getElem?_getD,List.getElem?_take]
      rw [if_pos (by omega)]
     rw [e] at this
     exact this
 ·have hvl:(visF (beginS d).its).length≤60:=by
   have:=valid_ws hv
   refine Nat.le_trans (List.length_filter_le _ _) ?_
   show (beginIts d.ws d.ws.length).length≤60
   rw [beginIts_len];exact this
  exact ⟨⟨beginS d,rfl,rfl,rfl⟩,Int.le_refl _,Nat.zero_le _,fun _ _=>by simp;omega,fun _ _ j hj=>absurd (hj rfl) (by omega)⟩
theorem style_ok {d:Dr} {rs:List Rul} {o:List Sp} (hv:validF d = true) (hr:okRuls rs = true) (h:Styles d rs (some o)) :
  o.length≤80∧∃ S,endF d o = .ok S∧(rs = []→o = [])∧(rs.length = 1→(rs.getD 0 default).p≠[]→∀ j,j + (rs.getD 0 default).f.length≤(visF S.its).length→¬ Good d (visF S.its) (rs.getD 0 default).f j):=by
 obtain ⟨v,c,i,a,h1,h2⟩:=(style_inv hv hr h).1 o rfl
 obtain ⟨S,rfl,rfl,hp⟩:=h2.play
 refine ⟨h2.len,S, ?_,fun e=>?_,fun e1 e2 j hj=>h2.none e1 e2 j (fun e=>by omega) hj⟩
 ·unfold endF
  rw [if_neg (by rw [hv];decide),if_neg (by have:=h2.len;omega),hp]
 ·subst e
  cases h with
  | done _=>rfl
  | next k=>exact absurd k (Nat.not_lt_zero _)
  | skip k=>exact absurd k (Nat.not_lt_zero _)
  | hit k=>exact absurd k (Nat.not_lt_zero _)
theorem style_none {d:Dr} {rs:List Rul} (hv:validF d = true) (hr:okRuls rs = true) (h:Styles d rs none):1 < rs.length:=by
 obtain ⟨v,c,i,a,out,h1,h2,h3,h4⟩:=(style_inv hv hr h).2 rfl
 rcases Nat.lt_or_ge 1 rs.length with h | h
 ·exact h
 ·have:=h1.few (by omega) (by omega)
  omega
end Go.Proofs.YtfppbjfbghaclaaGreat

namespace Go.Proofs.YtfppbjfbghaclaaGreat
open Go.Pal Go.RowKit
set_option maxRecDepth 100000
def RowRu (G:Hp) (l:List Rul) (n:Nat) (vs:List Value):Prop:=n = l.length∧vs.length = n * 2∧∀ i (h:i < l.length),((vs.drop (i * 2)).take 2).length = 2∧RuC G ((vs.drop (i * 2)).take 2) l[i]
theorem RowRu.grow {G G':Hp} {l:List Rul} {n:Nat} {vs:List Value} (hg:Grow G G') (h:RowRu G l n vs):RowRu G' l n vs:=⟨h.1,h.2.1,fun i hi=>⟨(h.2.2 i hi).1,RuC.grow _ _ hg (h.2.2 i hi).2⟩⟩
theorem RowRu.snoc {G:Hp} {l:List Rul} {n:Nat} {vs us:List Value} {x:Rul} (h:RowRu G l n vs) (hu:us.length = 2) (hx:RuC G us x):RowRu G (l++[x]) (n + 1) (vs++us):=by
 obtain ⟨rfl,hv,hvs⟩:=h
 refine ⟨by simp,by rw [List.length_append,hv,hu];omega, ?_⟩
 intro i hi
 by_cases h:i < l.length
 ·rw [List.getElem_append_left h]
  have:((vs++us).drop (i * 2)).take 2 = (vs.drop (i * 2)).take 2:=by
   rw [List.drop_append_of_le_length (by omega),List.take_append_of_le_length (by rw [List.length_drop];omega)]
  rw [this];exact hvs i h
 ·have:i = l.length:=by simp at hi;omega
  subst this
  have e:(l++[x])[l.length] = x:=by simp
  rw [e,List.drop_append,List.drop_of_length_le (by omega),List.nil_append,show l.length * 2 - vs.length = 0 by omega,List.drop_zero,List.take_of_length_le (by omega)]
  exact ⟨hu,hx⟩
theorem RowRu.pub {G:Hp} {a:Option Addr} {l:List Rul} {n c:Nat} {vs:List Value} (h:RowRu G l n vs) (hp:PubRow G a n c vs) (hb:n≤1000000):rusRd.R G (.slice a n c) l :=
 ⟨_,_,_,rfl,SlR.ofPub hp h.1.symm h.2.2,by omega⟩
theorem rules38:Sound Tryz.prog 38 id (grel (args1 rusRd fun l=>l.length≤1000∧∀ r∈l,fewR r) fun l v G=>rusRd.R G v l):=by
 refine comp38.grel (Tab.cons 46 _ texts46 body46 (Tab.nil _)) (ok1 _ _) (fun args G s h=>?_) (fun x v G G' hg h=>rusRd.grow hg h) (fun args G l h=>?_)
 ·obtain ⟨v,rfl,_⟩:=h;simp
 ·obtain ⟨v,rfl,⟨a,n,c,rfl,hl,hn⟩,hb,hf⟩:=h
  have hlen:=hl.len
  (conv=>whnf)
  refine LoopP.of { α:=Nat × Nat × List Value,fr:=fun x=>[(0, .v (.slice a n c)),(3, .c (.row 1 x.2.1)),(4, .v (I x.1))],H:=fun x=>[(1, .row none x.2.1 x.2.2 119 2)],ok:=fun x G=>x.1≤l.length∧RowRu G (l.take x.1) x.2.1 x.2.2,m:=fun x=>l.length - x.1 }
   (0,0,[]) (HeadP.of [(1,none)] ⟨rfl,rfl,rfl,trivial⟩ ⟨rfl,trivial⟩) ⟨Nat.zero_le _,rfl,rfl,fun i h=>absurd h (by simp)⟩ (fun _=>⟨rfl,rfl⟩) (fun x G2 hg2 hx=>W.mk ?_)
  obtain ⟨i,m,vs⟩:=x
  obtain ⟨hi,hr⟩:=hx
  dsimp only at hi hr
  dsimp only
  have hm:m = i:=by rw [hr.1,List.length_take];omega
  (conv=>whnf)
  refine IteP.mk (fun hlt=>W.mk ?_) (fun hge=>W.mk ?_)<;>(conv=>whnf)
  ·have h1:i < l.length:=by omega
   obtain ⟨cs,c1,c2,c3⟩:=(SlR.grow (G:=G) (G':=G2) (fun cs x h=>RuC.grow cs x hg2 h) hl hg2).at_ i h1
   have hfi:=hf _ (List.getElem_mem h1)
   have htk:l.take (i + 1) = l.take i++[l[i]]:=by rw [List.take_add_one,List.getElem?_eq_getElem h1];rfl
   generalize l[i] = x at c3 hfi htk
   obtain ⟨f,p,rfl,hfv,hpv⟩:=id c3
   obtain ⟨fa,fn,fc,rfl,_,_⟩:=id hfv
   obtain ⟨pa,pn,pc,rfl,_,_⟩:=id hpv
   repeat' (first | (refine ob ?_ ?_;(first | trivial | omega | (simp only [inR];omega) | exact ble (by rfl) | exact SlR.some ‹_› (by omega));(conv=>whnf)) | (first | (refine ra ‹_› (by rfl) ?_;(conv=>whnf)) | (refine rb ‹_› (by rfl) ?_;(conv=>whnf)) | (refine rc ‹_› (by rfl) ?_;(conv=>whnf)) | (refine rd ‹_› (by rfl) ?_;(conv=>whnf))))
   refine RelP.g (ok1 (slRd strE) fun l=>l.length≤100000) (x:=x.f) ⟨_,rfl,hfv,by have:=hfi.1;show x.f.length≤_;omega⟩ (Grow.refl _) (fun v G3 hg3 hq=>W.mk ?_)
   obtain ⟨qa,qn,qc,rfl,_,_⟩:=id hq
   (conv=>whnf)
   repeat' (first | (refine ob ?_ ?_;(first | trivial | omega | (simp only [inR];omega) | exact ble (by rfl) | exact SlR.some ‹_› (by omega));(conv=>whnf)) | (first | (refine ra ‹_› (by rfl) ?_;(conv=>whnf)) | (refine rb ‹_› (by rfl) ?_;(conv=>whnf)) | (refine rc ‹_› (by rfl) ?_;(conv=>whnf)) | (refine rd ‹_› (by rfl) ?_;(conv=>whnf))))
   refine RelP.g (ok1 (slRd strE) fun l=>l.length≤100000) (x:=x.p) ⟨_,rfl,hpv.grow hg3,by have:=hfi.2;show x.p.length≤_;omega⟩ (Grow.refl _) (fun v G4 hg4 hq2=>W.mk ?_)
   obtain ⟨ua,un,uc,rfl,_,_⟩:=id hq2
   (conv=>whnf)
   repeat' (first | (refine ob ?_ ?_;(first | trivial | omega | (simp only [inR];omega) | exact ble (by rfl) | exact SlR.some ‹_› (by omega));(conv=>whnf)) | (first | (refine ra ‹_› (by rfl) ?_;(conv=>whnf)) | (refine rb ‹_› (by rfl) ?_;(conv=>whnf)) | (refine rc ‹_› (by rfl) ?_;(conv=>whnf)) | (refine rd ‹_› (by rfl) ?_;(conv=>whnf))))
   have hnx:=(hr.grow (hg3.trans hg4)).snoc (x:=x) (us:=[.slice qa qn qc, .slice ua un uc]) rfl ⟨_,_,rfl,hq.grow hg4,hq2⟩
   rw [← htk] at hnx
   exact RoundP.of (i + 1,m + 1,_) (HeadP.of [(1,some 22)] ⟨rfl,rfl,rfl,trivial⟩ ⟨rfl,trivial⟩) ⟨h1,hnx⟩ (by show l.length - (i + 1) < l.length - i;omega)
  ·have:i = l.length:=by omega
   subst this
   rw [List.take_length] at hr
   refine PubP.mk (fun ga gc G4 hg4 hp=>W.mk ?_)
   (conv=>whnf)
   exact FinP.mk ((hr.grow hg4).pub hp (by omega))
end Go.Proofs.YtfppbjfbghaclaaGreat

namespace Go.Proofs.YtfppbjfbghaclaaGreat
open Go.Pal Go.RowKit
set_option maxRecDepth 100000
theorem su_nil {G:Hp}:suRd.R G (.slice none 0 0) []:=⟨_,_,_,rfl,⟨rfl,Nat.le_refl _,fun h=>absurd rfl h,fun i hi=>absurd hi (by simp)⟩,Nat.zero_le _⟩
theorem style_u {d:Dr} {rs:List Rul} {o:List Sp} (h:Styles d rs (some o)):∀ x∈o,x.u = 0:=by
 obtain ⟨v,c,i,a,_,h2⟩:=(Run.inv (P:=fun _ _ _ _ out=>∀ x∈out,x.u = 0) h (fun _ _ _ _ _ _ _ k=>k) (fun _ _ _ _ _ _ _ _ k=>k) (fun v c i a out _ _ _ _ k x hx=>by
  rcases List.mem_append.1 hx with hx | hx
  ·exact k x hx
  ·have:x = stepR (rs.getD i default) a:=by simpa using hx
   rw [this];rfl) (fun x hx=>by cases hx)).1 o rfl
 exact h2
abbrev lawR (T:Tab Tryz.prog):Tab Tryz.prog:=Tab.cons 14 _ thin14 body14 (Tab.cons 28 _ short28 body28 (Tab.cons 32 _ right32 body32 (Tab.cons 39 _ rules39 body39 (Tab.cons 38 _ rules38 body38 (Tab.cons 37 _ style37r body37 T)))))
set_option maxHeartbeats 4000000 in
theorem law12:Sound Tryz.prog 12 id (gsca (args2 duRd ruURd fun _ rs=>∀ r∈rs,sizeR r) fun _ v=>v = .bool true):=by
 refine comp12.gsca (lawT (lawR (Tab.cons 40 _ style40 body40 (Tab.cons 29 _ strings29 body29 (Tab.nil _))))) (fun args G s h=>?_) (fun args G x h=>?_)
 ·obtain ⟨u,v,rfl,_⟩:=h;simp
 ·obtain ⟨d,rs⟩:=x
  obtain ⟨_,_,rfl,hdu,hru,hsz⟩:=h
  dsimp only at hdu hru hsz
  obtain ⟨w,k,rfl,hw,hk⟩:=id hdu
  obtain ⟨wa,wn,wc,rfl,hwl,_⟩:=id hw
  obtain ⟨ka,kn,kc,rfl,hkl,_⟩:=id hk
  obtain ⟨ra,rn,rc,rfl,hrl,hrn⟩:=id hru
  have hrlen:=hrl.len
  (conv=>whnf)
  refine ScaP.g (ok2 duRd suRd fun _ _=>True) (x:=(d,[])) ⟨_,_,rfl,hdu,su_nil,trivial⟩ (fun v hv=>W.mk ?_)
  subst hv
  dsimp only
  (conv=>whnf)
  refine ForkP.mk (fun hthin=>W.mk ?_) (fun ht=>W.mk ?_)<;>(conv=>whnf)
  rotate_left
  ·(refine ScaP.g okU (G:=fun _=>none) (x:=()) rfl (fun v hv=>W.mk ?_);subst hv;(conv=>whnf);refine ForkP.mk (fun _=>W.mk ?_) (fun h=>by cases h);(conv=>whnf);exact FinP.mk rfl)
  obtain ⟨t1,t2,t3,t4,t5⟩:=thin_iff.1 hthin
  have hdr:=thin_dr hthin hdu
  refine IteP.mk (fun h12=>W.mk ?_) (fun h12=>W.mk ?_)<;>(conv=>whnf)
  ·(refine ScaP.g okU (G:=fun _=>none) (x:=()) rfl (fun v hv=>W.mk ?_);subst hv;(conv=>whnf);refine ForkP.mk (fun _=>W.mk ?_) (fun h=>by cases h);(conv=>whnf);exact FinP.mk rfl)
  refine LoopP.of { α:=Nat,fr:=fun x=>[(1, .v (.slice ra rn rc)),(2, .c (.ptr 0 0)),(5, .v (I x))],H:=fun _=>[(0, .cells .anon [.val (.slice wa wn wc), .val (.slice ka kn kc)] 25)],ok:=fun i _=>i≤rs.length∧∀ j < i,shortF (rs.getD j default).f = true∧shortF (rs.getD j default).p = true,m:=fun x=>rs.length - x }
   0 (HeadP.of [] ⟨rfl,rfl,rfl,trivial⟩ ⟨rfl,trivial⟩) ⟨Nat.zero_le _,fun j hj=>by omega⟩ (fun _=>⟨rfl,rfl⟩) (fun (i:Nat) G1 hg1 hx=>W.mk ?_)
  obtain ⟨hi,hx⟩:=hx
  dsimp only
  (conv=>whnf)
  refine IteP.mk (fun hlt=>W.mk ?_) (fun hge=>W.mk ?_)<;>(conv=>whnf)
  ·have h1:i < rs.length:=by omega
   obtain ⟨cs,c1,c2,c3⟩:=(SlR.grow (G:=G) (G':=G1) (fun cs x h=>RuU.grow cs x hg1 h) hrl hg1).at_ i h1
   have hgr:rs.getD i default = rs[i]:=by simp [h1]
   rw [← hgr] at c3
   have nxt:shortF (rs.getD i default).f = true→shortF (rs.getD i default).p = true→∀ j < i + 1,shortF (rs.getD j default).f = true∧shortF (rs.getD j default).p = true:=fun e1 e2 j hj=>by
    rcases Nat.lt_or_eq_of_le (Nat.le_of_lt_succ hj) with h | h
    ·exact hx j h
    ·subst h;exact ⟨e1,e2⟩
   generalize rs.getD i default = r at c3 nxt
   obtain ⟨f,p,rfl,hf,hp⟩:=c3
   obtain ⟨fa,fn,fc,rfl,_⟩:=id hf
   obtain ⟨pa,pn,pc,rfl,_⟩:=id hp
   repeat' (first | (refine ob ?_ ?_;(first | trivial | omega | (simp only [inR];omega) | exact ble (by rfl) | exact SlR.some ‹_› (by omega));(conv=>whnf)) | (first | (refine ra ‹_› (by rfl) ?_;(conv=>whnf)) | (refine rb ‹_› (by rfl) ?_;(conv=>whnf)) | (refine rc ‹_› (by rfl) ?_;(conv=>whnf)) | (refine rd ‹_› (by rfl) ?_;(conv=>whnf))))
   refine ScaP.g (ok1 (slURd strE) fun _=>True) (x:=r.f) ⟨_,rfl,hf,trivial⟩ (fun v hv=>W.mk ?_)
   subst hv
   (conv=>whnf)
   refine ForkP.mk (fun e1=>W.mk ?_) (fun e1=>W.mk ?_)<;>(conv=>whnf)
   rotate_left
   ·(refine ScaP.g okU (G:=fun _=>none) (x:=()) rfl (fun v hv=>W.mk ?_);subst hv;(conv=>whnf);refine ForkP.mk (fun _=>W.mk ?_) (fun h=>by cases h);(conv=>whnf);exact FinP.mk rfl)
   repeat' (first | (refine ob ?_ ?_;(first | trivial | omega | (simp only [inR];omega) | exact ble (by rfl) | exact SlR.some ‹_› (by omega));(conv=>whnf)) | (first | (refine ra ‹_› (by rfl) ?_;(conv=>whnf)) | (refine rb ‹_› (by rfl) ?_;(conv=>whnf)) | (refine rc ‹_› (by rfl) ?_;(conv=>whnf)) | (refine rd ‹_› (by rfl) ?_;(conv=>whnf))))
   refine ScaP.g (ok1 (slURd strE) fun _=>True) (x:=r.p) ⟨_,rfl,hp,trivial⟩ (fun v hv=>W.mk ?_)
   subst hv
   (conv=>whnf)
   refine ForkP.mk (fun e2=>W.mk ?_) (fun e2=>W.mk ?_)<;>(conv=>whnf)
   rotate_left
   ·(refine ScaP.g okU (G:=fun _=>none) (x:=()) rfl (fun v hv=>W.mk ?_);subst hv;(conv=>whnf);refine ForkP.mk (fun _=>W.mk ?_) (fun h=>by cases h);(conv=>whnf);exact FinP.mk rfl)
   repeat' (refine ob ?_ ?_;(first | trivial | omega | (simp only [inR];omega) | exact ble (by rfl) | exact SlR.some ‹_› (by omega));(conv=>whnf))
   exact RoundP.of (i + 1) (HeadP.of [] ⟨rfl,rfl,rfl,trivial⟩ ⟨rfl,trivial⟩) ⟨h1,nxt e1 e2⟩ (by simp only;omega)
  ·have hin:i = rs.length:=by omega
   subst hin
   have hshort:∀ r∈rs,shortF r.f = true∧shortF r.p = true:=fun r hr=>by
    obtain ⟨j,hj,rfl⟩:=List.mem_iff_getElem.1 hr
    have:=hx j hj
    have e:rs.getD j default = rs[j]:=by simp [hj]
    rwa [e] at this
   have hfew:∀ r∈rs,fewR r:=fun r hr=>⟨by have:=(short_iff.1 (hshort r hr).1).2;omega,by have:=(short_iff.1 (hshort r hr).2).2;omega⟩
   have hrs:=(ruURd.s hru (by omega) hfew)
   refine RelP.g (ok1 drRd fun d=>d.ws.length≤100000∧d.ks.length≤100000) (x:=d) ⟨_,rfl,drRd.grow hg1 hdr,by omega,by omega⟩ (Grow.refl _) (fun v G2 hg2 hq2=>W.mk ?_)
   obtain ⟨_,_,rfl,⟨_,_,_,rfl,_,_⟩,⟨_,_,_,rfl,_,_⟩⟩:=id hq2
   have hG2:=hg1.trans hg2
   (conv=>whnf)
   refine RelP.g (ok1 rusRd fun l=>l.length≤1000∧∀ r∈l,fewR r) (x:=rs) ⟨_,rfl,rusRd.grow hG2 hrs,by omega,hfew⟩ (Grow.refl _) (fun v G3 hg3 hq3=>W.mk ?_)
   obtain ⟨_,_,_,rfl,_,_⟩:=id hq3
   have hG3:=hG2.trans hg3
   (conv=>whnf)
   refine RelP.g (ok2 drRd rusRd fun _ _=>True) (x:=(d,rs)) ⟨_,_,rfl,drRd.grow hg3 hq2,hq3,trivial⟩ (Grow.refl _) (fun v G4 hg4 hq=>W.mk ?_)
   dsimp only at hq
   have hG4:=hG3.trans hg4
   rcases hq with ⟨hno,rfl⟩ | ⟨hv,hok,⟨hs,rfl⟩ | ⟨o,oa,on,oc,hs,rfl,hor⟩⟩
   ·(conv=>whnf)
    cases hv:validF d with
    | false =>
     refine ScaP.g (ok1 drRd fun d=>d.ks.length≤100000∧∀ w∈d.ws,w.t.size≤1000000) (x:=d) ⟨_,rfl,drRd.grow hG4 hdr,by omega,fun w hw=>by have:=t1 w hw;omega⟩ (fun v hv2=>W.mk ?_)
     rw [hv] at hv2
     subst hv2
     (conv=>whnf)
     refine ForkP.mk (fun h=>by cases h) (fun _=>W.mk ?_)
     (conv=>whnf)
     repeat' (refine IteP.mk (fun _=>W.mk ?_) (fun _=>W.mk ?_)<;>first | (exfalso;omega) | (conv=>whnf))
     (refine ScaP.g okU (G:=fun _=>none) (x:=()) rfl (fun v hv=>W.mk ?_);subst hv;(conv=>whnf);refine ForkP.mk (fun _=>W.mk ?_) (fun h=>by cases h);(conv=>whnf);exact FinP.mk rfl)
    | true =>
     have hok:okRuls rs = false:=hno.resolve_left (by rw [hv];decide)
     refine ScaP.g (ok1 drRd fun d=>d.ks.length≤100000∧∀ w∈d.ws,w.t.size≤1000000) (x:=d) ⟨_,rfl,drRd.grow hG4 hdr,by omega,fun w hw=>by have:=t1 w hw;omega⟩ (fun v hv2=>W.mk ?_)
     rw [hv] at hv2
     subst hv2
     (conv=>whnf)
     refine ForkP.mk (fun _=>W.mk ?_) (fun h=>by cases h)
     (conv=>whnf)
     refine ScaP.g (ok1 ruURd fun rs=>∀ r∈rs,sizeR r) (x:=rs) ⟨_,rfl,ruURd.grow hG4 hru,hsz⟩ (fun v hv2=>W.mk ?_)
     rw [hok] at hv2
     subst hv2
     (conv=>whnf)
     refine ForkP.mk (fun h=>by cases h) (fun _=>W.mk ?_)
     (conv=>whnf)
     repeat' (refine IteP.mk (fun _=>W.mk ?_) (fun _=>W.mk ?_)<;>first | (exfalso;omega) | (conv=>whnf))
     (refine ScaP.g okU (G:=fun _=>none) (x:=()) rfl (fun v hv=>W.mk ?_);subst hv;(conv=>whnf);refine ForkP.mk (fun _=>W.mk ?_) (fun h=>by cases h);(conv=>whnf);exact FinP.mk rfl)
   ·(conv=>whnf)
    refine ScaP.g (ok1 drRd fun d=>d.ks.length≤100000∧∀ w∈d.ws,w.t.size≤1000000) (x:=d) ⟨_,rfl,drRd.grow hG4 hdr,by omega,fun w hw=>by have:=t1 w hw;omega⟩ (fun v hv2=>W.mk ?_)
    rw [hv] at hv2
    subst hv2
    (conv=>whnf)
    refine ForkP.mk (fun _=>W.mk ?_) (fun h=>by cases h)
    (conv=>whnf)
    refine ScaP.g (ok1 ruURd fun rs=>∀ r∈rs,sizeR r) (x:=rs) ⟨_,rfl,ruURd.grow hG4 hru,hsz⟩ (fun v hv2=>W.mk ?_)
    rw [hok] at hv2
    subst hv2
    (conv=>whnf)
    refine ForkP.mk (fun _=>W.mk ?_) (fun h=>by cases h)
    (conv=>whnf)
    refine RelP.g (ok2 drRd rusRd fun d rs=>validF d = true∧okRuls rs = true) (x:=(d,rs)) ⟨_,_,rfl,drRd.grow hG4 hdr,rusRd.grow hG4 hrs,hv,hok⟩ (Grow.refl _) (fun v G5 hg5 hq=>W.mk ?_)
    rcases hq with ⟨_,rfl⟩ | ⟨o2,_,_,_,hs2,_⟩
    ·(conv=>whnf)
     refine ForkP.mk (fun h=>by cases h) (fun _=>W.mk ?_)
     (conv=>whnf)
     repeat' (refine IteP.mk (fun _=>W.mk ?_) (fun _=>W.mk ?_)<;>first | (exfalso;omega) | (conv=>whnf))
     (refine ScaP.g okU (G:=fun _=>none) (x:=()) rfl (fun v hv=>W.mk ?_);subst hv;(conv=>whnf);refine ForkP.mk (fun _=>W.mk ?_) (fun h=>by cases h);(conv=>whnf);exact FinP.mk rfl)
    ·cases hs.uniq hs2
   ·obtain ⟨_,_,_,e,hol,hon⟩:=id hor
    cases e
    (conv=>whnf)
    refine ScaP.g (ok1 drRd fun d=>d.ks.length≤100000∧∀ w∈d.ws,w.t.size≤1000000) (x:=d) ⟨_,rfl,drRd.grow hG4 hdr,by omega,fun w hw=>by have:=t1 w hw;omega⟩ (fun v hv2=>W.mk ?_)
    rw [hv] at hv2
    subst hv2
    (conv=>whnf)
    refine ForkP.mk (fun _=>W.mk ?_) (fun h=>by cases h)
    (conv=>whnf)
    refine ScaP.g (ok1 ruURd fun rs=>∀ r∈rs,sizeR r) (x:=rs) ⟨_,rfl,ruURd.grow hG4 hru,hsz⟩ (fun v hv2=>W.mk ?_)
    rw [hok] at hv2
    subst hv2
    (conv=>whnf)
    refine ForkP.mk (fun _=>W.mk ?_) (fun h=>by cases h)
    (conv=>whnf)
    refine RelP.g (ok2 drRd rusRd fun d rs=>validF d = true∧okRuls rs = true) (x:=(d,rs)) ⟨_,_,rfl,drRd.grow hG4 hdr,rusRd.grow hG4 hrs,hv,hok⟩ (Grow.refl _) (fun v G5 hg5 hq=>W.mk ?_)
    rcases hq with ⟨hs2,_⟩ | ⟨o2,qa,qn,qc,hs2,rfl,hq2⟩
    ·cases hs.uniq hs2
    cases hs.uniq hs2
    obtain ⟨_,_,_,e,hql,hqn⟩:=hq2
    cases e
    have holen:=hol.len
    have hqlen:=hql.len
    have hmx:=Nat.le_trans hon maxLen_lt
    have hu:=style_u hs
    replace hol:=SlR.grow (G:=G4) (G':=G5) (fun cs x h=>SpC.grow cs x hg5 h) hol hg5
    (conv=>whnf)
    refine ForkP.mk (fun _=>W.mk ?_) (fun h=>by cases h)
    (conv=>whnf)
    repeat' (refine IteP.mk (fun _=>W.mk ?_) (fun _=>W.mk ?_)<;>first | (exfalso;omega) | (conv=>whnf))
    refine LoopP.of { α:=Nat,fr:=fun x=>[(6, .v (.slice oa on oc)),(8, .v (.slice qa qn qc)),(10, .v (I x))],H:=fun _=>[(0, .cells .anon [.val (.slice wa wn wc), .val (.slice ka kn kc)] 25)],ok:=fun i _=>i≤o.length,m:=fun x=>o.length - x }
     0 (HeadP.of [] ⟨rfl,rfl,rfl,trivial⟩ ⟨rfl,trivial⟩) (Nat.zero_le _) (fun _=>⟨rfl,rfl⟩) (fun (i:Nat) G6 hg6 hi=>W.mk ?_)
    have hi:i≤o.length:=hi
    dsimp only
    (conv=>whnf)
    refine IteP.mk (fun hlt=>W.mk ?_) (fun hge=>W.mk ?_)<;>(conv=>whnf)
    ·have h1:i < o.length:=by omega
     obtain ⟨cs,c1,c2,c3⟩:=(SlR.grow (G:=G5) (G':=G6) (fun cs x h=>SpC.grow cs x hg6 h) hol hg6).at_ i h1
     obtain ⟨es,e1,e2,e3⟩:=(SlR.grow (G:=G5) (G':=G6) (fun cs x h=>SpC.grow cs x hg6 h) hql hg6).at_ i h1
     have hu0:=hu _ (List.getElem_mem h1)
     generalize o[i] = x at c3 e3 hu0
     obtain ⟨pv,rfl,hp⟩:=c3
     obtain ⟨qv,rfl,hq⟩:=e3
     obtain ⟨pa,pn,pc,rfl,_⟩:=id hp
     obtain ⟨ua,un,uc,rfl,_⟩:=id hq
     have hoa:=hol.some (by omega)
     have hqa:=hql.some (by omega)
     repeat' (first | (refine ob ?_ ?_;(first | trivial | omega | (simp only [inR];omega) | exact ble (by rfl) | exact SlR.some ‹_› (by omega));(conv=>whnf)) | (first | (refine ra ‹_› (by rfl) ?_;(conv=>whnf)) | (refine rb ‹_› (by rfl) ?_;(conv=>whnf)) | (refine rc ‹_› (by rfl) ?_;(conv=>whnf)) | (refine rd ‹_› (by rfl) ?_;(conv=>whnf))) | (refine IteP.mk (fun _=>W.mk ?_) (fun _=>W.mk ?_)<;>first | (exfalso;omega) | (conv=>whnf)))
     refine ScaP.g (ok2 (slRd strE) (slRd strE) fun _ _=>True) (x:=(x.put,x.put)) ⟨_,_,rfl,hp,hq,trivial⟩ (fun v hv2=>W.mk ?_)
     have hv2:v = .bool true:=hv2.trans (congrArg Value.bool (decide_eq_true rfl))
     subst hv2
     (conv=>whnf)
     refine ForkP.mk (fun _=>W.mk ?_) (fun h=>by cases h)
     (conv=>whnf)
     repeat' (refine ob ?_ ?_;(first | trivial | omega | (simp only [inR];omega) | exact ble (by rfl) | exact SlR.some ‹_› (by omega));(conv=>whnf))
     exact RoundP.of (i + 1) (HeadP.of [] ⟨rfl,rfl,rfl,trivial⟩ ⟨rfl,trivial⟩) h1 (by show o.length - (i + 1) < o.length - i;omega)
    ·(refine ScaP.g okU (G:=fun _=>none) (x:=()) rfl (fun v hv=>W.mk ?_);subst hv;(conv=>whnf);refine ForkP.mk (fun _=>W.mk ?_) (fun h=>by cases h);(conv=>whnf);exact FinP.mk rfl)
end Go.Proofs.YtfppbjfbghaclaaGreat

namespace Go.Proofs.YtfppbjfbghaclaaGreat
open Go.Pal Go.RowKit
set_option maxRecDepth 100000
def goodB (d:Dr) (v:List It) (f:List ByteArray) (j k:Nat):Bool:=decide (0≤(v.getD (j + k) default).o) && !decide ((v.getD (j + k) default).o∈d.ks) && decide ((v.getD (j + k) default).t = f.getD k default)
theorem good_b {d:Dr} {v:List It} {f:List ByteArray} {j:Nat} (h:¬ Good d v f j):(List.range f.length).all (goodB d v f j) = false:=by
 cases hh:(List.range f.length).all (goodB d v f j) with
 | false=>rfl
 | true =>
  refine absurd (fun k hk=>?_) h
  have:=range_all.1 hh k hk
  simp only [goodB,Bool.and_eq_true,decide_eq_true_eq,Bool.not_eq_true',decide_eq_false_iff_not] at this
  exact ⟨this.1.1,this.1.2,this.2⟩
theorem shown_begin (d:Dr):shownF (beginS d) = plainL d:=shown_all (rch_begin d) rfl
theorem shown_at {S:Sh} {k:Nat} (h:k < (shownF S).length):(shownF S)[k] = ((visF S.its).getD k default).vi:=by
 have h2:k < (visF S.its).length:=by rwa [shown_vis,List.length_map] at h
 simp [shown_vis,h2]
set_option maxHeartbeats 4000000 in
theorem law13:Sound Tryz.prog 13 id (gsca (args2 duRd ruURd fun _ rs=>∀ r∈rs,sizeR r) fun _ v=>v = .bool true):=by
 refine comp13.gsca (lawT (lawR (Tab.cons 36 _ plain36 body36 (Tab.cons 24 _ has24 body24 (Tab.nil _))))) (fun args G s h=>?_) (fun args G x h=>?_)
 ·obtain ⟨u,v,rfl,_⟩:=h;simp
 ·obtain ⟨d,rs⟩:=x
  obtain ⟨_,_,rfl,hdu,hru,hsz⟩:=h
  dsimp only at hdu hru hsz
  obtain ⟨w,k,rfl,hw,hk⟩:=id hdu
  obtain ⟨wa,wn,wc,rfl,hwl,_⟩:=id hw
  obtain ⟨ka,kn,kc,rfl,hkl,_⟩:=id hk
  obtain ⟨za,zn,zc,rfl,hrl,hrn⟩:=id hru
  have hrlen:=hrl.len
  (conv=>whnf)
  refine ScaP.g (ok2 duRd suRd fun _ _=>True) (x:=(d,[])) ⟨_,_,rfl,hdu,su_nil,trivial⟩ (fun v hv=>W.mk ?_)
  subst hv
  dsimp only
  (conv=>whnf)
  refine ForkP.mk (fun hthin=>W.mk ?_) (fun ht=>W.mk ?_)<;>(conv=>whnf)
  rotate_left
  ·(refine ScaP.g okU (G:=fun _=>none) (x:=()) rfl (fun v hv=>W.mk ?_);subst hv;(conv=>whnf);refine ForkP.mk (fun _=>W.mk ?_) (fun h=>by cases h);(conv=>whnf);exact FinP.mk rfl)
  obtain ⟨t1,t2,t3,t4,t5⟩:=thin_iff.1 hthin
  have hdr:=thin_dr hthin hdu
  cases hv:validF d with
  | false =>
   refine ScaP.g (ok1 drRd fun d=>d.ks.length≤100000∧∀ w∈d.ws,w.t.size≤1000000) (x:=d) ⟨_,rfl,hdr,by omega,fun w hw=>by have:=t1 w hw;omega⟩ (fun v hv2=>W.mk ?_)
   rw [hv] at hv2
   subst hv2
   (conv=>whnf)
   refine ForkP.mk (fun h=>by cases h) (fun _=>W.mk ?_)
   (conv=>whnf)
   (refine ScaP.g okU (G:=fun _=>none) (x:=()) rfl (fun v hv=>W.mk ?_);subst hv;(conv=>whnf);refine ForkP.mk (fun _=>W.mk ?_) (fun h=>by cases h);(conv=>whnf);exact FinP.mk rfl)
  | true =>
  refine ScaP.g (ok1 drRd fun d=>d.ks.length≤100000∧∀ w∈d.ws,w.t.size≤1000000) (x:=d) ⟨_,rfl,hdr,by omega,fun w hw=>by have:=t1 w hw;omega⟩ (fun v hv2=>W.mk ?_)
  rw [hv] at hv2
  subst hv2
  (conv=>whnf)
  refine ForkP.mk (fun _=>W.mk ?_) (fun h=>by cases h)
  (conv=>whnf)
  cases hok:okRuls rs with
  | false =>
   refine ScaP.g (ok1 ruURd fun rs=>∀ r∈rs,sizeR r) (x:=rs) ⟨_,rfl,hru,hsz⟩ (fun v hv2=>W.mk ?_)
   rw [hok] at hv2
   subst hv2
   (conv=>whnf)
   refine ForkP.mk (fun h=>by cases h) (fun _=>W.mk ?_)
   (conv=>whnf)
   (refine ScaP.g okU (G:=fun _=>none) (x:=()) rfl (fun v hv=>W.mk ?_);subst hv;(conv=>whnf);refine ForkP.mk (fun _=>W.mk ?_) (fun h=>by cases h);(conv=>whnf);exact FinP.mk rfl)
  | true =>
  refine ScaP.g (ok1 ruURd fun rs=>∀ r∈rs,sizeR r) (x:=rs) ⟨_,rfl,hru,hsz⟩ (fun v hv2=>W.mk ?_)
  rw [hok] at hv2
  subst hv2
  (conv=>whnf)
  refine ForkP.mk (fun _=>W.mk ?_) (fun h=>by cases h)
  (conv=>whnf)
  obtain ⟨hr10,hfew⟩:=okRuls_few hok
  have hrs:=(ruURd.s hru (by omega) hfew)
  refine RelP.g (ok1 drRd fun d=>d.ws.length≤100000∧d.ks.length≤100000) (x:=d) ⟨_,rfl,hdr,by omega,by omega⟩ (Grow.refl _) (fun v G2 hG2 hq2=>W.mk ?_)
  obtain ⟨_,_,rfl,⟨_,_,_,rfl,_,_⟩,⟨_,_,_,rfl,_,_⟩⟩:=id hq2
  (conv=>whnf)
  refine RelP.g (ok1 rusRd fun l=>l.length≤1000∧∀ r∈l,fewR r) (x:=rs) ⟨_,rfl,rusRd.grow hG2 hrs,by show rs.length≤_;omega,hfew⟩ (Grow.refl _) (fun v G3 hg3 hq3=>W.mk ?_)
  obtain ⟨_,_,_,rfl,_,_⟩:=id hq3
  have hG3:=hG2.trans hg3
  (conv=>whnf)
  refine RelP.g (ok2 drRd rusRd fun _ _=>True) (x:=(d,rs)) ⟨_,_,rfl,drRd.grow hg3 hq2,hq3,trivial⟩ (Grow.refl _) (fun v G4 hg4 hq=>W.mk ?_)
  dsimp only at hq
  have hG4:=hG3.trans hg4
  rcases hq with ⟨hno,_⟩ | ⟨_,_,⟨hs,rfl⟩ | ⟨o,oa,on,oc,hs,rfl,hor⟩⟩
  ·rw [hv,hok] at hno;rcases hno with h | h<;>cases h
  ·have h1:=style_none hv hok hs
   (conv=>whnf)
   repeat' (refine IteP.mk (fun _=>W.mk ?_) (fun _=>W.mk ?_)<;>first | (exfalso;omega) | (conv=>whnf))
   (refine ScaP.g okU (G:=fun _=>none) (x:=()) rfl (fun v hv=>W.mk ?_);subst hv;(conv=>whnf);refine ForkP.mk (fun _=>W.mk ?_) (fun h=>by cases h);(conv=>whnf);exact FinP.mk rfl)
  ·obtain ⟨ho80,S,hE,hnil,hone⟩:=style_ok hv hok hs
   obtain ⟨_,_,_,e,hol,hon⟩:=id hor
   cases e
   have holen:=hol.len
   (conv=>whnf)
   repeat' (refine IteP.mk (fun _=>W.mk ?_) (fun _=>W.mk ?_)<;>first | (exfalso;omega) | (conv=>whnf))
   refine RelP.g (ok1 drRd fun d=>d.ws.length≤100000∧d.ks.length≤100000) (x:=d) ⟨_,rfl,drRd.grow hG4 hdr,by omega,by omega⟩ (Grow.refl _) (fun v G5 hg5 hq5=>W.mk ?_)
   obtain ⟨_,_,rfl,⟨_,_,_,rfl,_,_⟩,⟨_,_,_,rfl,_,_⟩⟩:=id hq5
   have hG5:=hG4.trans hg5
   (conv=>whnf)
   refine RelP.g (ok2 drRd spsRd fun _ _=>True) (x:=(d,o)) ⟨_,_,rfl,hq5,spsRd.grow hg5 hor,trivial⟩ (Grow.refl _) (fun v G6 hg6 hq=>W.mk ?_)
   unfold showR at hq
   dsimp only at hq
   rw [hE] at hq
   obtain ⟨xa,xb,rfl,hx1,hx2⟩:=hq
   obtain ⟨la,ln,lc,rfl,hl,hln⟩:=id hx1
   obtain ⟨va,vn,vc,rfl,_,_⟩:=id hx2
   have hllen:=hl.len
   have hG6:=hG5.trans hg6
   (conv=>whnf)
   (refine IteP.mk (fun _=>W.mk ?_) (fun _=>W.mk ?_)<;>first | (exfalso;omega) | (conv=>whnf))
   refine IteP.mk (fun h0=>W.mk ?_) (fun h0=>W.mk ?_)<;>(conv=>whnf)
   ·have hrs0:rs = []:=List.eq_nil_of_length_eq_zero (by omega)
    have ho0:=hnil hrs0
    have hon0:on = 0:=by rw [← holen,ho0];rfl
    subst ho0
    have hS:S = beginS d:=by
     have:=(endF_ok hE).2.2
     cases this;rfl
    repeat' (refine IteP.mk (fun _=>W.mk ?_) (fun _=>W.mk ?_)<;>first | (exfalso;omega) | (conv=>whnf))
    refine ScaP.g (ok2 drRd (slRd viE) fun _ _=>True) (x:=(d,shownF S)) ⟨_,_,rfl,drRd.grow hG6 hdr,hx1,trivial⟩ (fun v hv2=>W.mk ?_)
    have hv2:v = .bool true:=hv2.trans (congrArg Value.bool (decide_eq_true (by show shownF S = _;rw [hS];exact shown_begin d)))
    subst hv2
    (conv=>whnf)
    refine ForkP.mk (fun _=>W.mk ?_) (fun h=>by cases h)
    (conv=>whnf)
    repeat' (refine IteP.mk (fun _=>W.mk ?_) (fun _=>W.mk ?_)<;>first | (exfalso;omega) | (conv=>whnf))
    (refine ScaP.g okU (G:=fun _=>none) (x:=()) rfl (fun v hv=>W.mk ?_);subst hv;(conv=>whnf);refine ForkP.mk (fun _=>W.mk ?_) (fun h=>by cases h);(conv=>whnf);exact FinP.mk rfl)
   refine IteP.mk (fun h1=>W.mk ?_) (fun h1=>W.mk ?_)<;>(conv=>whnf)
   rotate_left
   ·(refine ScaP.g okU (G:=fun _=>none) (x:=()) rfl (fun v hv=>W.mk ?_);subst hv;(conv=>whnf);refine ForkP.mk (fun _=>W.mk ?_) (fun h=>by cases h);(conv=>whnf);exact FinP.mk rfl)
   have hr1:0 < rs.length:=by omega
   obtain ⟨cs,c1,c2,c3⟩:=(SlR.grow (G:=G) (G':=G6) (fun cs x h=>RuU.grow cs x hG6 h) hrl hG6).at_ 0 hr1
   have hgr:rs.getD 0 default = rs[0]:=by simp [hr1]
   rw [← hgr] at c3
   have hokr:okRul (rs.getD 0 default) = true:=by
    simp only [okRuls,Bool.and_eq_true,List.all_eq_true] at hok
    rw [hgr];exact hok.2 _ (List.getElem_mem hr1)
   have hone:=hone (by omega)
   generalize rs.getD 0 default = r at c3 hone hokr
   obtain ⟨f,p,rfl,hf,hp⟩:=c3
   obtain ⟨fa,fn,fc,rfl,hfl,hfn⟩:=id hf
   obtain ⟨pa,pn,pc,rfl,hpl,_⟩:=id hp
   have hflen:=hfl.len
   have hplen:=hpl.len
   have hf4:=(okRul_iff.1 hokr).1
   repeat' (first | (refine ob ?_ ?_;(first | trivial | omega | (simp only [inR];omega) | exact ble (by rfl) | exact SlR.some ‹_› (by omega));(conv=>whnf)) | (first | (refine ra ‹_› (by rfl) ?_;(conv=>whnf)) | (refine rb ‹_› (by rfl) ?_;(conv=>whnf)) | (refine rc ‹_› (by rfl) ?_;(conv=>whnf)) | (refine rd ‹_› (by rfl) ?_;(conv=>whnf))))
   refine IteP.mk (fun hp0=>W.mk ?_) (fun hp0=>W.mk ?_)<;>(conv=>whnf)
   ·(refine ScaP.g okU (G:=fun _=>none) (x:=()) rfl (fun v hv=>W.mk ?_);subst hv;(conv=>whnf);refine ForkP.mk (fun _=>W.mk ?_) (fun h=>by cases h);(conv=>whnf);exact FinP.mk rfl)
   have hbad:=hone (fun h=>hp0 (by rw [← hplen,h];rfl))
   have hshl:(shownF S).length = (visF S.its).length:=by rw [shown_vis,List.length_map]
   repeat' (first | (refine ob ?_ ?_;(first | trivial | omega | (simp only [inR];omega) | exact ble (by rfl) | exact SlR.some ‹_› (by omega));(conv=>whnf)) | (first | (refine ra ‹_› (by rfl) ?_;(conv=>whnf)) | (refine rb ‹_› (by rfl) ?_;(conv=>whnf)) | (refine rc ‹_› (by rfl) ?_;(conv=>whnf)) | (refine rd ‹_› (by rfl) ?_;(conv=>whnf))))
   refine LoopP.of { α:=Nat,fr:=fun x=>[(2, .c (.ptr 0 0)),(7, .v (.slice la ln lc)),(11, .v (.slice fa fn fc)),(12, .v (I x))],H:=fun _=>[(0, .cells .anon [.val (.slice wa wn wc), .val (.slice ka kn kc)] 25)],ok:=fun i _=>i≤ln,m:=fun x=>ln - x }
    0 (HeadP.of [] ⟨rfl,rfl,rfl,rfl,trivial⟩ ⟨rfl,trivial⟩) (Nat.zero_le _) (fun _=>⟨rfl,rfl⟩) (fun (i:Nat) G7 hg7 hi=>W.mk ?_)
   have hi:i≤ln:=hi
   dsimp only
   (conv=>whnf)
   repeat' (refine ob ?_ ?_;(first | trivial | omega | (simp only [inR];omega) | exact ble (by rfl) | exact SlR.some ‹_› (by omega));(conv=>whnf))
   refine IteP.mk (fun hlt=>W.mk ?_) (fun hge=>W.mk ?_)<;>(conv=>whnf)
   rotate_left
   ·(refine ScaP.g okU (G:=fun _=>none) (x:=()) rfl (fun v hv=>W.mk ?_);subst hv;(conv=>whnf);refine ForkP.mk (fun _=>W.mk ?_) (fun h=>by cases h);(conv=>whnf);exact FinP.mk rfl)
   have hnot:=good_b (hbad i (by omega))
   refine LoopP.of { α:=Nat × Bool,fr:=fun x=>[(2, .c (.ptr 0 0)),(7, .v (.slice la ln lc)),(11, .v (.slice fa fn fc)),(12, .v (I i)),(13, .v (.bool x.2)),(14, .v (I x.1))],H:=fun _=>[(0, .cells .anon [.val (.slice wa wn wc), .val (.slice ka kn kc)] 25)],ok:=fun x _=>x.1≤fn∧x.2 = (List.range x.1).all (goodB d (visF S.its) r.f i),m:=fun x=>fn - x.1 }
    (0,true) (HeadP.of [] ⟨rfl,rfl,rfl,rfl,rfl,rfl,trivial⟩ ⟨rfl,trivial⟩) ⟨Nat.zero_le _,rfl⟩ (fun _=>⟨rfl,rfl⟩) (fun x G8 hg8 hx=>W.mk ?_)
   obtain ⟨kk,bb⟩:=x
   obtain ⟨hkk,hbb⟩:=hx
   dsimp only at hkk hbb
   dsimp only
   (conv=>whnf)
   refine IteP.mk (fun hlt2=>W.mk ?_) (fun hge2=>W.mk ?_)<;>(conv=>whnf)
   rotate_left
   ·have:kk = r.f.length:=by omega
    subst this
    rw [hnot] at hbb
    subst hbb
    (conv=>whnf)
    repeat' (refine ob ?_ ?_;(first | trivial | omega | (simp only [inR];omega) | exact ble (by rfl) | exact SlR.some ‹_› (by omega));(conv=>whnf))
    exact RoundP.of (i + 1) (HeadP.of [] ⟨rfl,rfl,rfl,rfl,trivial⟩ ⟨rfl,trivial⟩) (by show i + 1≤ln;omega) (by show ln - (i + 1) < ln - i;omega)
   have hl8:=SlR.grow (G:=G6) (G':=G8) (fun _ _ h=>h) hl (hg7.trans hg8)
   have hf8:=SlR.grow (G:=G6) (G':=G8) (fun _ _ h=>h) hfl (hg7.trans hg8)
   have h1k:kk < r.f.length:=by omega
   have h1l:i + kk < (shownF S).length:=by omega
   have hcl:=hl8.el h1l
   have hcf:=hf8.el h1k
   have hga:=shown_at h1l
   have hgf:r.f.getD kk default = r.f[kk]:=by simp [h1k]
   have hgo:goodB d (visF S.its) r.f i kk = (decide (0≤(shownF S)[i + kk].o) && !decide ((shownF S)[i + kk].o∈d.ks) && decide ((shownF S)[i + kk].t = r.f[kk])):=by
    rw [goodB,hga,hgf];rfl
   have hnx:(List.range (kk + 1)).all (goodB d (visF S.its) r.f i) = (bb && goodB d (visF S.its) r.f i kk):=by rw [hbb,List.range_succ,List.all_append];simp
   generalize (shownF S)[i + kk] = y at hcl hgo
   generalize r.f[kk] = s at hcf hgo
   rw [hgo] at hnx
   have hks:SlV intE G8 (.slice ka kn kc) d.ks:=by
    obtain ⟨_,_,e,_,h⟩:=hdr
    simp only [Value.agg.injEq,Array.mk.injEq,List.cons.injEq,and_true] at e
    obtain ⟨rfl,rfl⟩:=e
    exact h.grow (hG6.trans (hg7.trans hg8))
   repeat' (refine ob ?_ ?_;(first | trivial | omega | (simp only [inR];omega) | exact ble (by rfl) | exact SlR.some ‹_› (by omega));(conv=>whnf))
   rw [show ((i:Int) + (kk:Int)).toNat = i + kk by omega]
   repeat' (first | (refine ob ?_ ?_;(first | trivial | omega | (simp only [inR];omega) | exact ble (by rfl) | exact SlR.some ‹_› (by omega));(conv=>whnf)) | (first | (refine ra ‹_› (by rfl) ?_;(conv=>whnf)) | (refine rb ‹_› (by rfl) ?_;(conv=>whnf)) | (refine rc ‹_› (by rfl) ?_;(conv=>whnf)) | (refine rd ‹_› (by rfl) ?_;(conv=>whnf))))
   have done:∀ b2:Bool,(List.range (kk + 1)).all (goodB d (visF S.its) r.f i) = b2→kk + 1≤fn∧b2 = (List.range (kk + 1)).all (goodB d (visF S.its) r.f i):=fun b2 h=>⟨by omega,h.symm⟩
   cases bb with
   | false =>
    (conv=>whnf)
    repeat' (refine ob ?_ ?_;(first | trivial | omega | (simp only [inR];omega) | exact ble (by rfl) | exact SlR.some ‹_› (by omega));(conv=>whnf))
    exact RoundP.of (kk + 1,false) (HeadP.of [] ⟨rfl,rfl,rfl,rfl,rfl,rfl,trivial⟩ ⟨rfl,trivial⟩) (done false hnx) (by show fn - (kk + 1) < fn - kk;omega)
   | true =>
    (conv=>whnf)
    refine IteP.mk (fun ho=>W.mk ?_) (fun ho=>W.mk ?_)<;>(conv=>whnf)
    ·refine ScaP.g (ok2 (slRd intE) intRd fun _ _=>True) (x:=(d.ks,y.o)) ⟨_,_,rfl,hks,rfl,trivial⟩ (fun v hv2=>W.mk ?_)
     dsimp only at hv2
     subst hv2
     cases hin:decide (y.o∈d.ks) with
     | true =>
      (conv=>whnf)
      refine ForkP.mk (fun _=>W.mk ?_) (fun h=>by cases h)
      (conv=>whnf)
      repeat' (refine ob ?_ ?_;(first | trivial | omega | (simp only [inR];omega) | exact ble (by rfl) | exact SlR.some ‹_› (by omega));(conv=>whnf))
      repeat' (refine ob ?_ ?_;(first | trivial | omega | (simp only [inR];omega) | exact ble (by rfl) | exact SlR.some ‹_› (by omega));(conv=>whnf))
      exact RoundP.of (kk + 1,false) (HeadP.of [] ⟨rfl,rfl,rfl,rfl,rfl,rfl,trivial⟩ ⟨rfl,trivial⟩) (done false (by rw [hnx,hin];simp)) (by show fn - (kk + 1) < fn - kk;omega)
     | false =>
      (conv=>whnf)
      refine ForkP.mk (fun h=>by cases h) (fun _=>W.mk ?_)
      (conv=>whnf)
      repeat' (first | (refine ob ?_ ?_;(first | trivial | omega | (simp only [inR];omega) | exact ble (by rfl) | exact SlR.some ‹_› (by omega));(conv=>whnf)) | (first | (refine ra ‹_› (by rfl) ?_;(conv=>whnf)) | (refine rb ‹_› (by rfl) ?_;(conv=>whnf)) | (refine rc ‹_› (by rfl) ?_;(conv=>whnf)) | (refine rd ‹_› (by rfl) ?_;(conv=>whnf))))
      refine PurP.of _ (pur_eqT y.t s) (W.mk ?_)
      (conv=>whnf)
      refine ForkP.mk (fun ht=>W.mk ?_) (fun ht=>W.mk ?_)<;>(conv=>whnf)
      ·repeat' (refine ob ?_ ?_;(first | trivial | omega | (simp only [inR];omega) | exact ble (by rfl) | exact SlR.some ‹_› (by omega));(conv=>whnf))
       exact RoundP.of (kk + 1,true) (HeadP.of [] ⟨rfl,rfl,rfl,rfl,rfl,rfl,trivial⟩ ⟨rfl,trivial⟩) (done true (by rw [hnx,hin,ht];simp [ho])) (by show fn - (kk + 1) < fn - kk;omega)
      ·repeat' (refine ob ?_ ?_;(first | trivial | omega | (simp only [inR];omega) | exact ble (by rfl) | exact SlR.some ‹_› (by omega));(conv=>whnf))
       exact RoundP.of (kk + 1,false) (HeadP.of [] ⟨rfl,rfl,rfl,rfl,rfl,rfl,trivial⟩ ⟨rfl,trivial⟩) (done false (by rw [hnx,hin,ht];simp)) (by show fn - (kk + 1) < fn - kk;omega)
    ·repeat' (refine ob ?_ ?_;(first | trivial | omega | (simp only [inR];omega) | exact ble (by rfl) | exact SlR.some ‹_› (by omega));(conv=>whnf))
     exact RoundP.of (kk + 1,false) (HeadP.of [] ⟨rfl,rfl,rfl,rfl,rfl,rfl,trivial⟩ ⟨rfl,trivial⟩) (done false (by rw [hnx];simp [ho])) (by show fn - (kk + 1) < fn - kk;omega)
end Go.Proofs.YtfppbjfbghaclaaGreat
