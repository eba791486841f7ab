/- Layer 3: all, ContainsFunc, IndexFunc over an own heap: the function that they call may change blocks of its own. Layer 3: texts; whether a draft is valid. Layer 3: rows of an own heap; what a sheet is, and what its steps do (plain). Layer 3: Contains; the visible items, their places; protected items. Layer 3: a sheet in the own heap; its places, what is protected; a step that is refused. Layer 3: the sheet at first. Layer 3: slices.DeleteFunc over rows of an own heap. -/
import Derived.Test.YtefnikpoimaiiaaGreatMC
import Derived.Test.YtefnikpoimaiiaaGreatMD
set_option linter.unusedSimpArgs false
set_option linter.unusedVariables false
namespace Go.Proofs.YtefnikpoimaiiaaGreat
open Go.Pal Go.RowKit
set_option maxRecDepth 100000
abbrev I (n:Int):Value:=.int .i64 n
abbrev U (n:Int):Value:=.int .u8 n
abbrev ptr (b:Nat):Value:=.pointer (some ⟨b,0,none⟩)
def intE:El Int:=⟨1,fun x=>[I x],fun {x y} h=>by simp at h;exact h,fun _=>rfl,fun _ v hv=>by simp at hv;rw [hv];rfl⟩
def u8E:El Int:=⟨1,fun x=>[U x],fun {x y} h=>by simp at h;exact h,fun _=>rfl,fun _ v hv=>by simp at hv;rw [hv];rfl⟩
def strE:El ByteArray:=⟨1,fun x=>[.string x],fun {x y} h=>by simp at h;exact h,fun _=>rfl,fun _ v hv=>by simp at hv;rw [hv];rfl⟩
structure Wo where
 t:ByteArray
 s:Int
 r:Int
def woE:El Wo:=⟨3,fun w=>[.string w.t,I w.s,I w.r],fun {x y} h=>by cases x;cases y;simp at h;obtain ⟨rfl,rfl,rfl⟩:=h;rfl,fun _=>rfl,fun _ v hv=>by simp at hv;rcases hv with rfl | rfl | rfl<;>rfl⟩
structure It where
 t:ByteArray
 o:Int
 m:Int
 g:Int
def itE:El It:=⟨4,fun w=>[.string w.t,I w.o,I w.m,I w.g],fun {x y} h=>by cases x;cases y;simp at h;obtain ⟨rfl,rfl,rfl,rfl⟩:=h;rfl,fun _=>rfl,fun _ v hv=>by simp at hv;rcases hv with rfl | rfl | rfl | rfl<;>rfl⟩
theorem RdhP.g {p G:Hp} {b off n:Nat} {A:List Value→Prop} {cs:List Value} (h:CellsAt G b off cs) (hl:cs.length = n) (k:W (A cs)):RdhP p G b off n A:=⟨cs,⟨hl, .inl h⟩,fun _=>k⟩
theorem RdhP.h {p G:Hp} {b off n:Nat} {A:List Value→Prop} {ds:List Value} {t:TypeId} (h:p b = some (.cells ds.toArray t (0,0))) (hl:((ds.drop off).take n).length = n) (k:W (A ((ds.drop off).take n))):RdhP p G b off n A:=⟨_,⟨hl, .inr ⟨ds,t,h,rfl⟩⟩,fun _=>k⟩
def KeepHp (F:Nat→Prop) (p p':Hp):Prop:=∀ b o, ¬ F b→p b = some o→p' b = some o
theorem KeepHp.refl {F:Nat→Prop} {p:Hp}:KeepHp F p p:=fun _ _ _ h=>h
theorem KeepHp.trans {F:Nat→Prop} {p q r:Hp} (h:KeepHp F p q) (h':KeepHp F q r):KeepHp F p r:=fun b o hf e=>h' b o hf (h b o hf e)
/-! ### The cells of a list of elements -/
abbrev flat {α:Type} (E:El α) (l:List α):List Value:=(l.map E.f).flatten
theorem flat_app {α:Type} (E:El α) (a b:List α):flat E (a++b) = flat E a++flat E b:=by simp [flat]
theorem flat_len {α:Type} (E:El α) (l:List α):(flat E l).length = l.length * E.k:=by
 induction l with
 | nil=>simp [flat]
 | cons x r ih=>rw [show flat E (x :: r) = E.f x++flat E r from rfl,List.length_append,ih,E.len,List.length_cons,Nat.add_mul,Nat.one_mul];omega
theorem flat_td {α:Type} (E:El α) (l:List α) (i:Nat) (h:i≤l.length):flat E (l.take i) = (flat E l).take (i * E.k)∧flat E (l.drop i) = (flat E l).drop (i * E.k):=by
 have h1:flat E l = flat E (l.take i)++flat E (l.drop i):=by rw [← flat_app,List.take_append_drop]
 have hlen:(flat E (l.take i)).length = i * E.k:=by rw [flat_len,List.length_take,Nat.min_eq_left h]
 generalize flat E (l.take i) = x at h1 hlen
 generalize flat E (l.drop i) = y at h1
 generalize flat E l = z at h1
 subst h1
 rw [← hlen]
 simp
theorem flat_take {α:Type} (E:El α) (l:List α) (i:Nat) (h:i≤l.length):flat E (l.take i) = (flat E l).take (i * E.k):=(flat_td E l i h).1
theorem flat_drop {α:Type} (E:El α) (l:List α) (i:Nat) (h:i≤l.length):flat E (l.drop i) = (flat E l).drop (i * E.k):=(flat_td E l i h).2
theorem flat_one {α:Type} (E:El α) (l:List α):∀ v∈flat E l,v.oneCell' = true:=fun v hv=>by
 obtain ⟨x,hx,hv⟩:=List.mem_flatten.1 hv
 obtain ⟨y,_,rfl⟩:=List.mem_map.1 hx
 exact E.one y v hv
theorem flat_split {α:Type} (E:El α) (l:List α) (i:Nat) (h:i < l.length):flat E l = flat E (l.take i)++(E.f l[i]++flat E (l.drop (i + 1))):=by
 have:l = l.take i++(l[i] :: l.drop (i + 1)):=by rw [← List.drop_eq_getElem_cons h,List.take_append_drop]
 calc flat E l = flat E (l.take i++(l[i] :: l.drop (i + 1))):=by rw [← this]
  _ = _:=by rw [flat_app];rfl
theorem flat_sub {α:Type} (E:El α) (l:List α) (rest:List Value) {i d n:Nat} (h:i < l.length) (hd:d + n≤E.k):((flat E l++rest).drop (i * E.k + d)).take n = ((E.f l[i]).drop d).take n:=by
 have hl:(flat E (l.take i)).length = i * E.k:=by rw [flat_len,List.length_take,Nat.min_eq_left (Nat.le_of_lt h)]
 have hf:=E.len l[i]
 rw [flat_split E l i h,List.append_assoc,List.append_assoc,List.drop_append,List.drop_of_length_le (by omega),List.nil_append,hl,Nat.add_sub_cancel_left,List.drop_append,List.take_append_of_le_length (by rw [List.length_drop];omega)]
theorem flat_at {α:Type} (E:El α) (l:List α) (rest:List Value) {i:Nat} (h:i < l.length):((flat E l++rest).drop (i * E.k)).take E.k = E.f l[i]:=by
 have:=flat_sub E l rest (d:=0) (n:=E.k) h (by omega)
 rw [Nat.add_zero,List.drop_zero] at this
 rw [this,List.take_of_length_le (Nat.le_of_eq (E.len _))]
theorem flat_set {α:Type} (E:El α) (l:List α) (rest us:List Value) {i d n:Nat} {x:α} (h:i < l.length) (hd:d + n≤E.k) (hx:(E.f l[i]).take d++us++(E.f l[i]).drop (d + n) = E.f x) :
  (flat E l++rest).take (i * E.k + d)++us++(flat E l++rest).drop (i * E.k + d + n) = flat E (l.set i x)++rest:=by
 have hl:(flat E (l.take i)).length = i * E.k:=by rw [flat_len,List.length_take,Nat.min_eq_left (Nat.le_of_lt h)]
 have hf:=E.len l[i]
 have hset:flat E (l.set i x) = flat E (l.take i)++(E.f x++flat E (l.drop (i + 1))):=by
  rw [List.set_eq_take_append_cons_drop,if_pos h,flat_app];rfl
 have e1:flat E l++rest = flat E (l.take i)++(E.f l[i]++(flat E (l.drop (i + 1))++rest)):=by rw [flat_split E l i h];simp only [List.append_assoc]
 rw [e1,hset,List.take_append,List.take_of_length_le (by omega),hl,Nat.add_sub_cancel_left,List.take_append_of_le_length (by omega),List.drop_append,List.drop_of_length_le (by omega),List.nil_append,hl,show i * E.k + d + n - i * E.k = d + n by omega,List.drop_append,show d + n - (E.f l[i]).length = d + n - E.k by rw [hf]]
 rw [show d + n - E.k = 0 by omega,List.drop_zero, ← hx]
 simp only [List.append_assoc]
def RowH {α:Type} (E:El α) (t:TypeId) (p:Hp) (v:Value) (l:List α):Prop :=
 (v = .slice none 0 0∧l = [])∨∃ b c rest,v = .slice (some ⟨b,0,none⟩) l.length c∧p b = some (.cells (flat E l++rest).toArray t (0,0))∧rest.length = (c - l.length) * E.k∧l.length≤c∧c≤maxLen
theorem RowH.nil {α:Type} {E:El α} {t:TypeId} {p:Hp}:RowH E t p (.slice none 0 0) []:=.inl ⟨rfl,rfl⟩
theorem RowH.cells {α:Type} {E:El α} {p:Hp} {b:Nat} {l:List α} {rest:List Value} {t:TypeId} (h:p b = some (.cells (flat E l++rest).toArray t (0,0))) {off n:Nat} {cs:List Value} (hcs:((flat E l++rest).drop off).take n = cs) {G:Hp} {A:List Value→Prop} (hl:cs.length = n) (k:W (A cs)):RdhP p G b off n A :=
 ⟨cs,⟨hl, .inr ⟨_,t,h,hcs.symm⟩⟩,fun _=>k⟩
theorem RowH.slV {α:Type} {E:El α} {t:TypeId} {p G:Hp} {v:Value} {l:List α} (h:RowH E t p v l) (hp:∀ b o,p b = some o→G b = some o) (hn:l.length≤140737488355328):SlV E G v l:=by
 rcases h with ⟨rfl,rfl⟩ | ⟨b,c,rest,rfl,hb,hr,hc,hm⟩
 ·exact SlV.nil
 ·refine ⟨_,_,_,rfl,⟨rfl,hc,fun _=>rfl,fun i hi=>⟨E.f l[i],E.len _, ?_,rfl⟩⟩,hn⟩
  intro j u hj
  have hjk:j < E.k:=by have:=(List.getElem?_eq_some_iff.1 hj).1;rwa [E.len] at this
  have e:=flat_at E l rest hi
  have:(flat E l++rest)[i * E.k + j]? = some u:=by
   rw [← List.getElem?_drop, ← hj, ← e,List.getElem?_take,if_pos hjk]
  simp only [rd1,ab_some,ao_some,Nat.zero_add,hp _ _ hb]
  simpa using this
def SlX {α:Type} (E:El α) (F:Nat→Prop) (p G:Hp) (v:Value) (l:List α):Prop:=SlV E G v l∨∃ t,RowH E t p v l∧(∀ k,blkOf v = some k→¬ F k)∧l.length≤140737488355328
theorem SlX.grow {α:Type} {E:El α} {F:Nat→Prop} {p G G':Hp} {v:Value} {l:List α} (hg:Grow G G') (h:SlX E F p G v l):SlX E F p G' v l:=h.imp (fun h=>h.grow hg) id
theorem SlX.keep {α:Type} {E:El α} {F:Nat→Prop} {p p' G:Hp} {v:Value} {l:List α} (hk:KeepHp F p p') (h:SlX E F p G v l):SlX E F p' G v l:=h.imp id fun ⟨t,h1,h2,h3⟩=>⟨t,by
 rcases h1 with h1 | ⟨b,c,rest,rfl,hb,h⟩
 ·exact .inl h1
 ·exact .inr ⟨b,c,rest,rfl,hk b _ (h2 b rfl) hb,h⟩,h2,h3⟩
theorem SlX.up {α:Type} {E:El α} {F:Nat→Prop} {p p' G:Hp} {v:Value} {l:List α} (hk:∀ k o,p k = some o→p' k = some o) (h:SlX E F p G v l):SlX E F p' G v l:=h.keep fun b o _ e=>hk b o e
theorem SlX.shape {α:Type} {E:El α} {F:Nat→Prop} {p G:Hp} {v:Value} {l:List α} (h:SlX E F p G v l):∃ a n c,v = .slice a n c∧l.length = n∧n≤140737488355328∧(n≠0→a = some ⟨ab a,ao a,none⟩):=by
 rcases h with ⟨a,n,c,rfl,hl,hn⟩ | ⟨t,⟨rfl,rfl⟩ | ⟨b,c,rest,rfl,_⟩,_,h3⟩
 ·exact ⟨a,n,c,rfl,hl.len,hn,hl.some⟩
 ·exact ⟨_,_,_,rfl,rfl,Nat.zero_le _,fun h=>absurd rfl h⟩
 ·exact ⟨_,_,_,rfl,rfl,h3,fun _=>rfl⟩
theorem SlX.rd {α:Type} {E:El α} {F:Nat→Prop} {p G:Hp} {a:Option Addr} {n c:Nat} {l:List α} (h:SlX E F p G (.slice a n c) l) {i:Nat} (hi:i < l.length) {A:List Value→Prop} (k:W (A (E.f l[i]))):RdhP p G (ab a) (ao a + i * E.k) E.k A:=by
 rcases h with ⟨_,_,_,e,hl,hn⟩ | ⟨t,⟨e,rfl⟩ | ⟨b,c',rest,e,hb,_⟩,_,_⟩
 ·cases e;exact RdhP.g (hl.el hi) (E.len _) k
 ·simp at hi
 ·cases e
  refine ⟨E.f l[i],⟨E.len _, .inr ⟨_,t,hb, ?_⟩⟩,fun _=>k⟩
  rw [ao_some,Nat.zero_add]
  exact (flat_at E l rest hi).symm
structure Judge (P:Program) {α:Type} (g:Value) (va:α→Value) (l:List α) (J:Nat→Hp→Hp→Prop) (F:Nat→Prop) (bs:Nat→Bool) (c:Bool):Prop where
 call:∀ i (h:i < l.length),(∀ j < i,bs j = c)→SoundFn P g (.hp (fun args p G=>args = [va l[i]]∧J i p G) fun _ p v p' G=>v = .bool (bs i)∧J (i + 1) p' G∧KeepHp F p p')
 up:∀ i p p' G,(∀ b o,p b = some o→p' b = some o)→J i p G→J i p' G
 mono:∀ i p G G',Grow G G'→J i p G→J i p G'
 has:∀ i p G b,J i p G→F b→∃ o,p b = some o
def idxQ (n:Nat) (J:Nat→Hp→Hp→Prop) (bs:Nat→Bool) (v:Value) (p' G:Hp):Prop:=(v = I (-1)∧(∀ i < n,bs i = false)∧J n p' G)∨∃ i < n,v = I (i:Nat)∧bs i = true∧(∀ j < i,bs j = false)∧J (i + 1) p' G
theorem idxQ_mono {n:Nat} {J:Nat→Hp→Hp→Prop} {bs:Nat→Bool} {v:Value} {p' G G':Hp} (hm:∀ i p G G',Grow G G'→J i p G→J i p G') (hg:Grow G G') (h:idxQ n J bs v p' G):idxQ n J bs v p' G':=by
 rcases h with ⟨h1,h2,h3⟩ | ⟨i,h1,h2,h3,h4,h5⟩
 ·exact .inl ⟨h1,h2,hm _ _ _ _ hg h3⟩
 ·exact .inr ⟨i,h1,h2,h3,h4,hm _ _ _ _ hg h5⟩
def idxS {α:Type} (E:El α) (l:List α) (g:Value) (J:Nat→Hp→Hp→Prop) (F:Nat→Prop) (bs:Nat→Bool):PSpec :=
 .hp (fun args p G=>∃ v,args = [v,g]∧SlX E F p G v l∧J 0 p G) fun _ p v p' G=>idxQ l.length J bs v p' G∧KeepHp F p p'
def conQ (n:Nat) (J:Nat→Hp→Hp→Prop) (bs:Nat→Bool) (v:Value) (p' G:Hp):Prop:=(v = .bool false∧(∀ i < n,bs i = false)∧J n p' G)∨∃ i < n,v = .bool true∧bs i = true∧(∀ j < i,bs j = false)∧J (i + 1) p' G
theorem conQ_mono {n:Nat} {J:Nat→Hp→Hp→Prop} {bs:Nat→Bool} {v:Value} {p' G G':Hp} (hm:∀ i p G G',Grow G G'→J i p G→J i p G') (hg:Grow G G') (h:conQ n J bs v p' G):conQ n J bs v p' G':=by
 rcases h with ⟨h1,h2,h3⟩ | ⟨i,h1,h2,h3,h4,h5⟩
 ·exact .inl ⟨h1,h2,hm _ _ _ _ hg h3⟩
 ·exact .inr ⟨i,h1,h2,h3,h4,hm _ _ _ _ hg h5⟩
def conS {α:Type} (E:El α) (l:List α) (g:Value) (J:Nat→Hp→Hp→Prop) (F:Nat→Prop) (bs:Nat→Bool):PSpec :=
 .hp (fun args p G=>∃ v,args = [v,g]∧SlX E F p G v l∧J 0 p G) fun _ p v p' G=>conQ l.length J bs v p' G∧KeepHp F p p'
def allQ (n:Nat) (J:Nat→Hp→Hp→Prop) (bs:Nat→Bool) (v:Value) (p' G:Hp):Prop:=(v = .bool true∧(∀ i < n,bs i = true)∧J n p' G)∨(v = .bool false∧∃ i < n,bs i = false∧(∀ j < i,bs j = true)∧J (i + 1) p' G)
theorem allQ_mono {n:Nat} {J:Nat→Hp→Hp→Prop} {bs:Nat→Bool} {v:Value} {p' G G':Hp} (hm:∀ i p G G',Grow G G'→J i p G→J i p G') (hg:Grow G G') (h:allQ n J bs v p' G):allQ n J bs v p' G':=by
 rcases h with ⟨h1,h2,h3⟩ | ⟨h2,i,h1,h3,h4,h5⟩
 ·exact .inl ⟨h1,h2,hm _ _ _ _ hg h3⟩
 ·exact .inr ⟨h2,i,h1,h3,h4,hm _ _ _ _ hg h5⟩
def allS {α:Type} (E:El α) (l:List α) (g:Value) (J:Nat→Hp→Hp→Prop) (F:Nat→Prop) (bs:Nat→Bool):PSpec :=
 .hp (fun args p G=>∃ v,args = [v,g]∧SlX E F p G v l∧J 0 p G) fun _ p v p' G=>allQ l.length J bs v p' G∧KeepHp F p p'
theorem idx117 {l:List ByteArray} {gf:FuncId} {fs cp:Array Value} {J:Nat→Hp→Hp→Prop} {F:Nat→Prop} {bs:Nat→Bool} (hJ:Judge Tryz.prog (.func (.func gf) fs cp) (fun s=>.string s) l J F bs false):Sound Tryz.prog 229 id (idxS strE l (.func (.func gf) fs cp) J F bs):=by
 refine comp117.hp (Tab.nil _) (fun args p G h=>?_) (fun args p v p' G G' hg h=>⟨idxQ_mono hJ.mono hg h.1,h.2⟩) (fun args p G h=>?_)
 ·obtain ⟨v,rfl,_⟩:=h;simp
 ·obtain ⟨v,rfl,hsl,hj⟩:=h
  obtain ⟨a,n,c,rfl,hlen,hn,hsome⟩:=hsl.shape
  (conv=>whnf)
  refine LoopP.of { α:=Nat × Hp,fr:=fun y=>[(0, .v (.slice a n c)),(1, .v (.func (.func gf) fs cp)),(6, .v (.slice a n c)),(7, .v (I n)),(8, .v (I y.1))],H:=fun y=>[(0, .heap y.2)],ok:=fun y G=>y.1≤l.length∧J y.1 y.2 G∧KeepHp F p y.2∧∀ j < y.1,bs j = false,m:=fun y=>l.length - y.1 }
   (0,p) (HeadP.of [] ⟨rfl,rfl,rfl,rfl,rfl,trivial⟩ ⟨rfl,trivial⟩) ⟨Nat.zero_le _,hj,KeepHp.refl,fun j hj=>by omega⟩ (fun _=>⟨rfl,rfl⟩) (fun y G1 hg1 hx=>W.mk ?_)
  obtain ⟨i,q⟩:=y
  obtain ⟨hi,hji,hk,hf⟩:=hx
  dsimp only at hi hji hk hf
  dsimp only
  (conv=>whnf)
  refine IteP.mk (fun hlt=>W.mk ?_) (fun hge=>W.mk ?_)<;>(conv=>whnf)
  ·have hlt:i < l.length:=by omega
   have hce:=(hsl.grow hg1).keep hk
   have hcall:=hJ.call i hlt hf
   (refine ob ?_ ?_;(first | trivial | omega | (simp only [inR];omega) | exact ble (by rfl) | exact SlR.some ‹_› (by omega));(conv=>whnf))
   refine OblP.mk (hsome (by omega)) (W.mk ?_)
   (conv=>whnf)
   refine hce.rd hlt (W.mk ?_)
   (conv=>whnf)
   refine CallvP.fn _ hcall (W.mk ?_)
   (conv=>whnf)
   refine HpcP.mk ⟨rfl,hji⟩ (fun v p' G2 hg2 hq=>W.mk ?_)
   obtain ⟨rfl,hj2,hk2⟩:=hq
   dsimp only
   (conv=>whnf)
   refine ForkP.mk (fun hb=>W.mk ?_) (fun hb=>W.mk ?_)<;>(conv=>whnf)
   ·refine NmP.mk ⟨[],W.mk ?_⟩
    (conv=>whnf)
    exact FinHp.of rfl ⟨.inr ⟨i,hlt,rfl,hb,hf,hj2⟩,hk.trans hk2⟩
   ·(refine ob ?_ ?_;(first | trivial | omega | (simp only [inR];omega) | exact ble (by rfl) | exact SlR.some ‹_› (by omega));(conv=>whnf))
    refine RoundP.of (i + 1,p') (HeadP.of [] ⟨rfl,rfl,rfl,rfl,rfl,trivial⟩ ⟨rfl,trivial⟩) ⟨hlt,hj2,hk.trans hk2,fun j hj=>?_⟩ (by simp only;omega)
    rcases Nat.lt_succ_iff_lt_or_eq.1 hj with h | rfl
    ·exact hf j h
    ·exact hb
  ·refine NmP.mk ⟨[],W.mk ?_⟩
   (conv=>whnf)
   have:i = l.length:=by omega
   exact FinHp.of rfl ⟨.inl ⟨rfl,this ▸ hf,this ▸ hji⟩,hk⟩
theorem con107 {l:List ByteArray} {gf:FuncId} {fs cp:Array Value} {J:Nat→Hp→Hp→Prop} {F:Nat→Prop} {bs:Nat→Bool} (hJ:Judge Tryz.prog (.func (.func gf) fs cp) (fun s=>.string s) l J F bs false):Sound Tryz.prog 192 id (conS strE l (.func (.func gf) fs cp) J F bs):=by
 refine comp107.hp (Tab.nil _) (fun args p G h=>?_) (fun args p v p' G G' hg h=>⟨conQ_mono hJ.mono hg h.1,h.2⟩) (fun args p G h=>?_)
 ·obtain ⟨v,rfl,_⟩:=h;simp
 ·obtain ⟨v,rfl,hsl,hj⟩:=h
  obtain ⟨a,n,c,rfl,_⟩:=hsl.shape
  (conv=>whnf)
  refine CallH.mk _ (idx117 hJ) body117 (W.mk ?_)
  (conv=>whnf)
  refine HpcP.mk ⟨_,rfl,hsl,hj⟩ (fun v p' G2 hg2 hq=>W.mk ?_)
  obtain ⟨hq,hk⟩:=hq
  rcases hq with ⟨rfl,hf,hj2⟩ | ⟨i,hi,rfl,hb,hf,hj2⟩
  ·dsimp only
   (conv=>whnf)
   refine IteP.mk (fun h=>by exfalso;omega) (fun h=>W.mk ?_)
   (conv=>whnf)
   refine NmP.mk ⟨[],W.mk ?_⟩
   (conv=>whnf)
   exact FinHp.of rfl ⟨.inl ⟨rfl,hf,hj2⟩,hk⟩
  ·dsimp only
   (conv=>whnf)
   refine IteP.mk (fun h=>W.mk ?_) (fun h=>by exfalso;omega)
   (conv=>whnf)
   refine NmP.mk ⟨[],W.mk ?_⟩
   (conv=>whnf)
   exact FinHp.of rfl ⟨.inr ⟨i,hi,rfl,hb,hf,hj2⟩,hk⟩
theorem clo108 {l:List ByteArray} {gf:FuncId} {fs cp:Array Value} {J:Nat→Hp→Hp→Prop} {F:Nat→Prop} {bs:Nat→Bool} (hJ:Judge Tryz.prog (.func (.func gf) fs cp) (fun s=>.string s) l J F bs true) {b:Nat} (hb:¬ F b):Judge Tryz.prog (.func (.func 211) #[] #[ptr b]) (fun s=>.string s) l (fun i p G=>J i p G∧p b = some (.cells #[.func (.func gf) fs cp] 131 (0,0))) F (fun i=>!(bs i)) false:=by
 refine ⟨fun i hi hpr=>SoundFn.of body108 ?_,fun i p p' G hp h=>⟨hJ.up i p p' G hp h.1,hp _ _ h.2⟩,fun i p G G' hg h=>⟨hJ.mono i p G G' hg h.1,h.2⟩,fun i p G k h hk=>hJ.has i p G k h.1 hk⟩
 have hcall:=hJ.call i hi (fun j hj=>by simpa using hpr j hj)
 refine comp108.hp (Tab.nil _) (fun args p G h=>?_) (fun args p v p' G G' hg h=>⟨h.1,⟨hJ.mono _ _ _ _ hg h.2.1.1,h.2.1.2⟩,h.2.2⟩) (fun args p G h=>?_)
 ·obtain ⟨rfl,_⟩:=h;simp
 ·obtain ⟨rfl,hj,hbx⟩:=h
  generalize l[i] = x at hcall
  (conv=>whnf)
  refine RdhP.h (ds:=[.func (.func gf) fs cp]) hbx rfl (W.mk ?_)
  (conv=>whnf)
  refine CallvP.fn _ hcall (W.mk ?_)
  (conv=>whnf)
  refine HpcP.mk ⟨rfl,hj⟩ (fun v p' G2 hg2 hq=>W.mk ?_)
  obtain ⟨rfl,hj2,hk2⟩:=hq
  dsimp only
  (conv=>whnf)
  refine ForkP.mk (fun he=>W.mk ?_) (fun he=>W.mk ?_)<;>(conv=>whnf)<;>refine NmP.mk ⟨[],W.mk ?_⟩<;>(conv=>whnf)<;>refine FinHp.of rfl ⟨?_,⟨hj2,hk2 _ _ hb hbx⟩,hk2⟩<;>rw [he]<;>rfl
theorem all85 {l:List ByteArray} {gf:FuncId} {fs cp:Array Value} {J:Nat→Hp→Hp→Prop} {F:Nat→Prop} {bs:Nat→Bool} (hJ:Judge Tryz.prog (.func (.func gf) fs cp) (fun s=>.string s) l J F bs true):Sound Tryz.prog 178 id (allS strE l (.func (.func gf) fs cp) J F bs):=by
 refine comp85.hp (Tab.nil _) (fun args p G h=>?_) (fun args p v p' G G' hg h=>⟨allQ_mono hJ.mono hg h.1,h.2⟩) (fun args p G h=>?_)
 ·obtain ⟨v,rfl,_⟩:=h;simp
 ·obtain ⟨v,rfl,hsl,hj⟩:=h
  obtain ⟨a,n,c,rfl,_⟩:=hsl.shape
  (conv=>whnf)
  refine NewP.mk (fun b hb=>W.mk ?_)
  (conv=>whnf)
  have hF:¬ F b:=fun h=>by obtain ⟨o,e⟩:=hJ.has 0 p G b hj h;rw [hb] at e;cases e
  have hup:∀ k o,p k = some o→upd p b (some (.cells #[Value.func (.func gf) fs cp] 131 (0,0))) k = some o:=fun k o e=>by
   rw [upd_other _ _ (fun h=>by rw [h,hb] at e;cases e)];exact e
  refine CallH.mk _ (con107 (clo108 hJ hF)) body107 (W.mk ?_)
  (conv=>whnf)
  refine HpcP.mk ⟨_,rfl,hsl.up hup,hJ.up 0 _ _ _ hup hj,upd_same _ _ _⟩ (fun v p' G2 hg2 hq=>W.mk ?_)
  obtain ⟨hq,hk⟩:=hq
  have hk2:KeepHp F p p':=fun k o h1 h2=>hk k o h1 (hup k o h2)
  rcases hq with ⟨rfl,hf,hj2,_⟩ | ⟨i,hi,rfl,hbi,hf,hj2,_⟩
  ·dsimp only
   (conv=>whnf)
   refine ForkP.mk (fun h=>by cases h) (fun _=>W.mk ?_)
   (conv=>whnf)
   refine NmP.mk ⟨[],W.mk ?_⟩
   (conv=>whnf)
   exact FinHp.of rfl ⟨.inl ⟨rfl,fun i hi=>by simpa using hf i hi,hj2⟩,hk2⟩
  ·dsimp only
   (conv=>whnf)
   refine ForkP.mk (fun _=>W.mk ?_) (fun h=>by cases h)
   (conv=>whnf)
   refine NmP.mk ⟨[],W.mk ?_⟩
   (conv=>whnf)
   exact FinHp.of rfl ⟨.inr ⟨rfl,i,hi,by simpa using hbi,fun j hj=>by simpa using hf j hj,hj2⟩,hk2⟩
theorem idx131 {l:List Int} {gf:FuncId} {fs cp:Array Value} {J:Nat→Hp→Hp→Prop} {F:Nat→Prop} {bs:Nat→Bool} (hJ:Judge Tryz.prog (.func (.func gf) fs cp) (fun n=>U n) l J F bs false):Sound Tryz.prog 242 id (idxS u8E l (.func (.func gf) fs cp) J F bs):=by
 refine comp131.hp (Tab.nil _) (fun args p G h=>?_) (fun args p v p' G G' hg h=>⟨idxQ_mono hJ.mono hg h.1,h.2⟩) (fun args p G h=>?_)
 ·obtain ⟨v,rfl,_⟩:=h;simp
 ·obtain ⟨v,rfl,hsl,hj⟩:=h
  obtain ⟨a,n,c,rfl,hlen,hn,hsome⟩:=hsl.shape
  (conv=>whnf)
  refine LoopP.of { α:=Nat × Hp,fr:=fun y=>[(0, .v (.slice a n c)),(1, .v (.func (.func gf) fs cp)),(6, .v (.slice a n c)),(7, .v (I n)),(8, .v (I y.1))],H:=fun y=>[(0, .heap y.2)],ok:=fun y G=>y.1≤l.length∧J y.1 y.2 G∧KeepHp F p y.2∧∀ j < y.1,bs j = false,m:=fun y=>l.length - y.1 }
   (0,p) (HeadP.of [] ⟨rfl,rfl,rfl,rfl,rfl,trivial⟩ ⟨rfl,trivial⟩) ⟨Nat.zero_le _,hj,KeepHp.refl,fun j hj=>by omega⟩ (fun _=>⟨rfl,rfl⟩) (fun y G1 hg1 hx=>W.mk ?_)
  obtain ⟨i,q⟩:=y
  obtain ⟨hi,hji,hk,hf⟩:=hx
  dsimp only at hi hji hk hf
  dsimp only
  (conv=>whnf)
  refine IteP.mk (fun hlt=>W.mk ?_) (fun hge=>W.mk ?_)<;>(conv=>whnf)
  ·have hlt:i < l.length:=by omega
   have hce:=(hsl.grow hg1).keep hk
   have hcall:=hJ.call i hlt hf
   (refine ob ?_ ?_;(first | trivial | omega | (simp only [inR];omega) | exact ble (by rfl) | exact SlR.some ‹_› (by omega));(conv=>whnf))
   refine OblP.mk (hsome (by omega)) (W.mk ?_)
   (conv=>whnf)
   refine hce.rd hlt (W.mk ?_)
   (conv=>whnf)
   refine CallvP.fn _ hcall (W.mk ?_)
   (conv=>whnf)
   refine HpcP.mk ⟨rfl,hji⟩ (fun v p' G2 hg2 hq=>W.mk ?_)
   obtain ⟨rfl,hj2,hk2⟩:=hq
   dsimp only
   (conv=>whnf)
   refine ForkP.mk (fun hb=>W.mk ?_) (fun hb=>W.mk ?_)<;>(conv=>whnf)
   ·refine NmP.mk ⟨[],W.mk ?_⟩
    (conv=>whnf)
    exact FinHp.of rfl ⟨.inr ⟨i,hlt,rfl,hb,hf,hj2⟩,hk.trans hk2⟩
   ·(refine ob ?_ ?_;(first | trivial | omega | (simp only [inR];omega) | exact ble (by rfl) | exact SlR.some ‹_› (by omega));(conv=>whnf))
    refine RoundP.of (i + 1,p') (HeadP.of [] ⟨rfl,rfl,rfl,rfl,rfl,trivial⟩ ⟨rfl,trivial⟩) ⟨hlt,hj2,hk.trans hk2,fun j hj=>?_⟩ (by simp only;omega)
    rcases Nat.lt_succ_iff_lt_or_eq.1 hj with h | rfl
    ·exact hf j h
    ·exact hb
  ·refine NmP.mk ⟨[],W.mk ?_⟩
   (conv=>whnf)
   have:i = l.length:=by omega
   exact FinHp.of rfl ⟨.inl ⟨rfl,this ▸ hf,this ▸ hji⟩,hk⟩
theorem con114 {l:List Int} {gf:FuncId} {fs cp:Array Value} {J:Nat→Hp→Hp→Prop} {F:Nat→Prop} {bs:Nat→Bool} (hJ:Judge Tryz.prog (.func (.func gf) fs cp) (fun n=>U n) l J F bs false):Sound Tryz.prog 208 id (conS u8E l (.func (.func gf) fs cp) J F bs):=by
 refine comp114.hp (Tab.nil _) (fun args p G h=>?_) (fun args p v p' G G' hg h=>⟨conQ_mono hJ.mono hg h.1,h.2⟩) (fun args p G h=>?_)
 ·obtain ⟨v,rfl,_⟩:=h;simp
 ·obtain ⟨v,rfl,hsl,hj⟩:=h
  obtain ⟨a,n,c,rfl,_⟩:=hsl.shape
  (conv=>whnf)
  refine CallH.mk _ (idx131 hJ) body131 (W.mk ?_)
  (conv=>whnf)
  refine HpcP.mk ⟨_,rfl,hsl,hj⟩ (fun v p' G2 hg2 hq=>W.mk ?_)
  obtain ⟨hq,hk⟩:=hq
  rcases hq with ⟨rfl,hf,hj2⟩ | ⟨i,hi,rfl,hb,hf,hj2⟩
  ·dsimp only
   (conv=>whnf)
   refine IteP.mk (fun h=>by exfalso;omega) (fun h=>W.mk ?_)
   (conv=>whnf)
   refine NmP.mk ⟨[],W.mk ?_⟩
   (conv=>whnf)
   exact FinHp.of rfl ⟨.inl ⟨rfl,hf,hj2⟩,hk⟩
  ·dsimp only
   (conv=>whnf)
   refine IteP.mk (fun h=>W.mk ?_) (fun h=>by exfalso;omega)
   (conv=>whnf)
   refine NmP.mk ⟨[],W.mk ?_⟩
   (conv=>whnf)
   exact FinHp.of rfl ⟨.inr ⟨i,hi,rfl,hb,hf,hj2⟩,hk⟩
theorem clo115 {l:List Int} {gf:FuncId} {fs cp:Array Value} {J:Nat→Hp→Hp→Prop} {F:Nat→Prop} {bs:Nat→Bool} (hJ:Judge Tryz.prog (.func (.func gf) fs cp) (fun n=>U n) l J F bs true) {b:Nat} (hb:¬ F b):Judge Tryz.prog (.func (.func 209) #[] #[ptr b]) (fun n=>U n) l (fun i p G=>J i p G∧p b = some (.cells #[.func (.func gf) fs cp] 276 (0,0))) F (fun i=>!(bs i)) false:=by
 refine ⟨fun i hi hpr=>SoundFn.of body115 ?_,fun i p p' G hp h=>⟨hJ.up i p p' G hp h.1,hp _ _ h.2⟩,fun i p G G' hg h=>⟨hJ.mono i p G G' hg h.1,h.2⟩,fun i p G k h hk=>hJ.has i p G k h.1 hk⟩
 have hcall:=hJ.call i hi (fun j hj=>by simpa using hpr j hj)
 refine comp115.hp (Tab.nil _) (fun args p G h=>?_) (fun args p v p' G G' hg h=>⟨h.1,⟨hJ.mono _ _ _ _ hg h.2.1.1,h.2.1.2⟩,h.2.2⟩) (fun args p G h=>?_)
 ·obtain ⟨rfl,_⟩:=h;simp
 ·obtain ⟨rfl,hj,hbx⟩:=h
  generalize l[i] = x at hcall
  (conv=>whnf)
  refine RdhP.h (ds:=[.func (.func gf) fs cp]) hbx rfl (W.mk ?_)
  (conv=>whnf)
  refine CallvP.fn _ hcall (W.mk ?_)
  (conv=>whnf)
  refine HpcP.mk ⟨rfl,hj⟩ (fun v p' G2 hg2 hq=>W.mk ?_)
  obtain ⟨rfl,hj2,hk2⟩:=hq
  dsimp only
  (conv=>whnf)
  refine ForkP.mk (fun he=>W.mk ?_) (fun he=>W.mk ?_)<;>(conv=>whnf)<;>refine NmP.mk ⟨[],W.mk ?_⟩<;>(conv=>whnf)<;>refine FinHp.of rfl ⟨?_,⟨hj2,hk2 _ _ hb hbx⟩,hk2⟩<;>rw [he]<;>rfl
theorem all98 {l:List Int} {gf:FuncId} {fs cp:Array Value} {J:Nat→Hp→Hp→Prop} {F:Nat→Prop} {bs:Nat→Bool} (hJ:Judge Tryz.prog (.func (.func gf) fs cp) (fun n=>U n) l J F bs true):Sound Tryz.prog 172 id (allS u8E l (.func (.func gf) fs cp) J F bs):=by
 refine comp98.hp (Tab.nil _) (fun args p G h=>?_) (fun args p v p' G G' hg h=>⟨allQ_mono hJ.mono hg h.1,h.2⟩) (fun args p G h=>?_)
 ·obtain ⟨v,rfl,_⟩:=h;simp
 ·obtain ⟨v,rfl,hsl,hj⟩:=h
  obtain ⟨a,n,c,rfl,_⟩:=hsl.shape
  (conv=>whnf)
  refine NewP.mk (fun b hb=>W.mk ?_)
  (conv=>whnf)
  have hF:¬ F b:=fun h=>by obtain ⟨o,e⟩:=hJ.has 0 p G b hj h;rw [hb] at e;cases e
  have hup:∀ k o,p k = some o→upd p b (some (.cells #[Value.func (.func gf) fs cp] 276 (0,0))) k = some o:=fun k o e=>by
   rw [upd_other _ _ (fun h=>by rw [h,hb] at e;cases e)];exact e
  refine CallH.mk _ (con114 (clo115 hJ hF)) body114 (W.mk ?_)
  (conv=>whnf)
  refine HpcP.mk ⟨_,rfl,hsl.up hup,hJ.up 0 _ _ _ hup hj,upd_same _ _ _⟩ (fun v p' G2 hg2 hq=>W.mk ?_)
  obtain ⟨hq,hk⟩:=hq
  have hk2:KeepHp F p p':=fun k o h1 h2=>hk k o h1 (hup k o h2)
  rcases hq with ⟨rfl,hf,hj2,_⟩ | ⟨i,hi,rfl,hbi,hf,hj2,_⟩
  ·dsimp only
   (conv=>whnf)
   refine ForkP.mk (fun h=>by cases h) (fun _=>W.mk ?_)
   (conv=>whnf)
   refine NmP.mk ⟨[],W.mk ?_⟩
   (conv=>whnf)
   exact FinHp.of rfl ⟨.inl ⟨rfl,fun i hi=>by simpa using hf i hi,hj2⟩,hk2⟩
  ·dsimp only
   (conv=>whnf)
   refine ForkP.mk (fun _=>W.mk ?_) (fun h=>by cases h)
   (conv=>whnf)
   refine NmP.mk ⟨[],W.mk ?_⟩
   (conv=>whnf)
   exact FinHp.of rfl ⟨.inr ⟨rfl,i,hi,by simpa using hbi,fun j hj=>by simpa using hf j hj,hj2⟩,hk2⟩
theorem idx81 {l:List Int} {gf:FuncId} {fs cp:Array Value} {J:Nat→Hp→Hp→Prop} {F:Nat→Prop} {bs:Nat→Bool} (hJ:Judge Tryz.prog (.func (.func gf) fs cp) (fun n=>I n) l J F bs false):Sound Tryz.prog 183 id (idxS intE l (.func (.func gf) fs cp) J F bs):=by
 refine comp81.hp (Tab.nil _) (fun args p G h=>?_) (fun args p v p' G G' hg h=>⟨idxQ_mono hJ.mono hg h.1,h.2⟩) (fun args p G h=>?_)
 ·obtain ⟨v,rfl,_⟩:=h;simp
 ·obtain ⟨v,rfl,hsl,hj⟩:=h
  obtain ⟨a,n,c,rfl,hlen,hn,hsome⟩:=hsl.shape
  (conv=>whnf)
  refine LoopP.of { α:=Nat × Hp,fr:=fun y=>[(0, .v (.slice a n c)),(1, .v (.func (.func gf) fs cp)),(6, .v (.slice a n c)),(7, .v (I n)),(8, .v (I y.1))],H:=fun y=>[(0, .heap y.2)],ok:=fun y G=>y.1≤l.length∧J y.1 y.2 G∧KeepHp F p y.2∧∀ j < y.1,bs j = false,m:=fun y=>l.length - y.1 }
   (0,p) (HeadP.of [] ⟨rfl,rfl,rfl,rfl,rfl,trivial⟩ ⟨rfl,trivial⟩) ⟨Nat.zero_le _,hj,KeepHp.refl,fun j hj=>by omega⟩ (fun _=>⟨rfl,rfl⟩) (fun y G1 hg1 hx=>W.mk ?_)
  obtain ⟨i,q⟩:=y
  obtain ⟨hi,hji,hk,hf⟩:=hx
  dsimp only at hi hji hk hf
  dsimp only
  (conv=>whnf)
  refine IteP.mk (fun hlt=>W.mk ?_) (fun hge=>W.mk ?_)<;>(conv=>whnf)
  ·have hlt:i < l.length:=by omega
   have hce:=(hsl.grow hg1).keep hk
   have hcall:=hJ.call i hlt hf
   (refine ob ?_ ?_;(first | trivial | omega | (simp only [inR];omega) | exact ble (by rfl) | exact SlR.some ‹_› (by omega));(conv=>whnf))
   refine OblP.mk (hsome (by omega)) (W.mk ?_)
   (conv=>whnf)
   refine hce.rd hlt (W.mk ?_)
   (conv=>whnf)
   refine CallvP.fn _ hcall (W.mk ?_)
   (conv=>whnf)
   refine HpcP.mk ⟨rfl,hji⟩ (fun v p' G2 hg2 hq=>W.mk ?_)
   obtain ⟨rfl,hj2,hk2⟩:=hq
   dsimp only
   (conv=>whnf)
   refine ForkP.mk (fun hb=>W.mk ?_) (fun hb=>W.mk ?_)<;>(conv=>whnf)
   ·refine NmP.mk ⟨[],W.mk ?_⟩
    (conv=>whnf)
    exact FinHp.of rfl ⟨.inr ⟨i,hlt,rfl,hb,hf,hj2⟩,hk.trans hk2⟩
   ·(refine ob ?_ ?_;(first | trivial | omega | (simp only [inR];omega) | exact ble (by rfl) | exact SlR.some ‹_› (by omega));(conv=>whnf))
    refine RoundP.of (i + 1,p') (HeadP.of [] ⟨rfl,rfl,rfl,rfl,rfl,trivial⟩ ⟨rfl,trivial⟩) ⟨hlt,hj2,hk.trans hk2,fun j hj=>?_⟩ (by simp only;omega)
    rcases Nat.lt_succ_iff_lt_or_eq.1 hj with h | rfl
    ·exact hf j h
    ·exact hb
  ·refine NmP.mk ⟨[],W.mk ?_⟩
   (conv=>whnf)
   have:i = l.length:=by omega
   exact FinHp.of rfl ⟨.inl ⟨rfl,this ▸ hf,this ▸ hji⟩,hk⟩
theorem con102 {l:List Int} {gf:FuncId} {fs cp:Array Value} {J:Nat→Hp→Hp→Prop} {F:Nat→Prop} {bs:Nat→Bool} (hJ:Judge Tryz.prog (.func (.func gf) fs cp) (fun n=>I n) l J F bs false):Sound Tryz.prog 176 id (conS intE l (.func (.func gf) fs cp) J F bs):=by
 refine comp102.hp (Tab.nil _) (fun args p G h=>?_) (fun args p v p' G G' hg h=>⟨conQ_mono hJ.mono hg h.1,h.2⟩) (fun args p G h=>?_)
 ·obtain ⟨v,rfl,_⟩:=h;simp
 ·obtain ⟨v,rfl,hsl,hj⟩:=h
  obtain ⟨a,n,c,rfl,_⟩:=hsl.shape
  (conv=>whnf)
  refine CallH.mk _ (idx81 hJ) body81 (W.mk ?_)
  (conv=>whnf)
  refine HpcP.mk ⟨_,rfl,hsl,hj⟩ (fun v p' G2 hg2 hq=>W.mk ?_)
  obtain ⟨hq,hk⟩:=hq
  rcases hq with ⟨rfl,hf,hj2⟩ | ⟨i,hi,rfl,hb,hf,hj2⟩
  ·dsimp only
   (conv=>whnf)
   refine IteP.mk (fun h=>by exfalso;omega) (fun h=>W.mk ?_)
   (conv=>whnf)
   refine NmP.mk ⟨[],W.mk ?_⟩
   (conv=>whnf)
   exact FinHp.of rfl ⟨.inl ⟨rfl,hf,hj2⟩,hk⟩
  ·dsimp only
   (conv=>whnf)
   refine IteP.mk (fun h=>W.mk ?_) (fun h=>by exfalso;omega)
   (conv=>whnf)
   refine NmP.mk ⟨[],W.mk ?_⟩
   (conv=>whnf)
   exact FinHp.of rfl ⟨.inr ⟨i,hi,rfl,hb,hf,hj2⟩,hk⟩
theorem clo103 {l:List Int} {gf:FuncId} {fs cp:Array Value} {J:Nat→Hp→Hp→Prop} {F:Nat→Prop} {bs:Nat→Bool} (hJ:Judge Tryz.prog (.func (.func gf) fs cp) (fun n=>I n) l J F bs true) {b:Nat} (hb:¬ F b):Judge Tryz.prog (.func (.func 177) #[] #[ptr b]) (fun n=>I n) l (fun i p G=>J i p G∧p b = some (.cells #[.func (.func gf) fs cp] 150 (0,0))) F (fun i=>!(bs i)) false:=by
 refine ⟨fun i hi hpr=>SoundFn.of body103 ?_,fun i p p' G hp h=>⟨hJ.up i p p' G hp h.1,hp _ _ h.2⟩,fun i p G G' hg h=>⟨hJ.mono i p G G' hg h.1,h.2⟩,fun i p G k h hk=>hJ.has i p G k h.1 hk⟩
 have hcall:=hJ.call i hi (fun j hj=>by simpa using hpr j hj)
 refine comp103.hp (Tab.nil _) (fun args p G h=>?_) (fun args p v p' G G' hg h=>⟨h.1,⟨hJ.mono _ _ _ _ hg h.2.1.1,h.2.1.2⟩,h.2.2⟩) (fun args p G h=>?_)
 ·obtain ⟨rfl,_⟩:=h;simp
 ·obtain ⟨rfl,hj,hbx⟩:=h
  generalize l[i] = x at hcall
  (conv=>whnf)
  refine RdhP.h (ds:=[.func (.func gf) fs cp]) hbx rfl (W.mk ?_)
  (conv=>whnf)
  refine CallvP.fn _ hcall (W.mk ?_)
  (conv=>whnf)
  refine HpcP.mk ⟨rfl,hj⟩ (fun v p' G2 hg2 hq=>W.mk ?_)
  obtain ⟨rfl,hj2,hk2⟩:=hq
  dsimp only
  (conv=>whnf)
  refine ForkP.mk (fun he=>W.mk ?_) (fun he=>W.mk ?_)<;>(conv=>whnf)<;>refine NmP.mk ⟨[],W.mk ?_⟩<;>(conv=>whnf)<;>refine FinHp.of rfl ⟨?_,⟨hj2,hk2 _ _ hb hbx⟩,hk2⟩<;>rw [he]<;>rfl
theorem all80 {l:List Int} {gf:FuncId} {fs cp:Array Value} {J:Nat→Hp→Hp→Prop} {F:Nat→Prop} {bs:Nat→Bool} (hJ:Judge Tryz.prog (.func (.func gf) fs cp) (fun n=>I n) l J F bs true):Sound Tryz.prog 115 id (allS intE l (.func (.func gf) fs cp) J F bs):=by
 refine comp80.hp (Tab.nil _) (fun args p G h=>?_) (fun args p v p' G G' hg h=>⟨allQ_mono hJ.mono hg h.1,h.2⟩) (fun args p G h=>?_)
 ·obtain ⟨v,rfl,_⟩:=h;simp
 ·obtain ⟨v,rfl,hsl,hj⟩:=h
  obtain ⟨a,n,c,rfl,_⟩:=hsl.shape
  (conv=>whnf)
  refine NewP.mk (fun b hb=>W.mk ?_)
  (conv=>whnf)
  have hF:¬ F b:=fun h=>by obtain ⟨o,e⟩:=hJ.has 0 p G b hj h;rw [hb] at e;cases e
  have hup:∀ k o,p k = some o→upd p b (some (.cells #[Value.func (.func gf) fs cp] 150 (0,0))) k = some o:=fun k o e=>by
   rw [upd_other _ _ (fun h=>by rw [h,hb] at e;cases e)];exact e
  refine CallH.mk _ (con102 (clo103 hJ hF)) body102 (W.mk ?_)
  (conv=>whnf)
  refine HpcP.mk ⟨_,rfl,hsl.up hup,hJ.up 0 _ _ _ hup hj,upd_same _ _ _⟩ (fun v p' G2 hg2 hq=>W.mk ?_)
  obtain ⟨hq,hk⟩:=hq
  have hk2:KeepHp F p p':=fun k o h1 h2=>hk k o h1 (hup k o h2)
  rcases hq with ⟨rfl,hf,hj2,_⟩ | ⟨i,hi,rfl,hbi,hf,hj2,_⟩
  ·dsimp only
   (conv=>whnf)
   refine ForkP.mk (fun h=>by cases h) (fun _=>W.mk ?_)
   (conv=>whnf)
   refine NmP.mk ⟨[],W.mk ?_⟩
   (conv=>whnf)
   exact FinHp.of rfl ⟨.inl ⟨rfl,fun i hi=>by simpa using hf i hi,hj2⟩,hk2⟩
  ·dsimp only
   (conv=>whnf)
   refine ForkP.mk (fun _=>W.mk ?_) (fun h=>by cases h)
   (conv=>whnf)
   refine NmP.mk ⟨[],W.mk ?_⟩
   (conv=>whnf)
   exact FinHp.of rfl ⟨.inr ⟨rfl,i,hi,by simpa using hbi,fun j hj=>by simpa using hf j hj,hj2⟩,hk2⟩
theorem idx116 {l:List Wo} {gf:FuncId} {fs cp:Array Value} {J:Nat→Hp→Hp→Prop} {F:Nat→Prop} {bs:Nat→Bool} (hJ:Judge Tryz.prog (.func (.func gf) fs cp) (fun w=>.agg (woE.f w).toArray) l J F bs false):Sound Tryz.prog 210 id (idxS woE l (.func (.func gf) fs cp) J F bs):=by
 refine comp116.hp (Tab.nil _) (fun args p G h=>?_) (fun args p v p' G G' hg h=>⟨idxQ_mono hJ.mono hg h.1,h.2⟩) (fun args p G h=>?_)
 ·obtain ⟨v,rfl,_⟩:=h;simp
 ·obtain ⟨v,rfl,hsl,hj⟩:=h
  obtain ⟨a,n,c,rfl,hlen,hn,hsome⟩:=hsl.shape
  (conv=>whnf)
  refine LoopP.of { α:=Nat × Hp,fr:=fun y=>[(0, .v (.slice a n c)),(1, .v (.func (.func gf) fs cp)),(6, .v (.slice a n c)),(7, .v (I n)),(8, .v (I y.1))],H:=fun y=>[(0, .heap y.2)],ok:=fun y G=>y.1≤l.length∧J y.1 y.2 G∧KeepHp F p y.2∧∀ j < y.1,bs j = false,m:=fun y=>l.length - y.1 }
   (0,p) (HeadP.of [] ⟨rfl,rfl,rfl,rfl,rfl,trivial⟩ ⟨rfl,trivial⟩) ⟨Nat.zero_le _,hj,KeepHp.refl,fun j hj=>by omega⟩ (fun _=>⟨rfl,rfl⟩) (fun y G1 hg1 hx=>W.mk ?_)
  obtain ⟨i,q⟩:=y
  obtain ⟨hi,hji,hk,hf⟩:=hx
  dsimp only at hi hji hk hf
  dsimp only
  (conv=>whnf)
  refine IteP.mk (fun hlt=>W.mk ?_) (fun hge=>W.mk ?_)<;>(conv=>whnf)
  ·have hlt:i < l.length:=by omega
   have hce:=(hsl.grow hg1).keep hk
   have hcall:=hJ.call i hlt hf
   (refine ob ?_ ?_;(first | trivial | omega | (simp only [inR];omega) | exact ble (by rfl) | exact SlR.some ‹_› (by omega));(conv=>whnf))
   refine OblP.mk (hsome (by omega)) (W.mk ?_)
   (conv=>whnf)
   refine hce.rd hlt (W.mk ?_)
   (conv=>whnf)
   refine CallvP.fn _ hcall (W.mk ?_)
   (conv=>whnf)
   refine HpcP.mk ⟨rfl,hji⟩ (fun v p' G2 hg2 hq=>W.mk ?_)
   obtain ⟨rfl,hj2,hk2⟩:=hq
   dsimp only
   (conv=>whnf)
   refine ForkP.mk (fun hb=>W.mk ?_) (fun hb=>W.mk ?_)<;>(conv=>whnf)
   ·refine NmP.mk ⟨[],W.mk ?_⟩
    (conv=>whnf)
    exact FinHp.of rfl ⟨.inr ⟨i,hlt,rfl,hb,hf,hj2⟩,hk.trans hk2⟩
   ·(refine ob ?_ ?_;(first | trivial | omega | (simp only [inR];omega) | exact ble (by rfl) | exact SlR.some ‹_› (by omega));(conv=>whnf))
    refine RoundP.of (i + 1,p') (HeadP.of [] ⟨rfl,rfl,rfl,rfl,rfl,trivial⟩ ⟨rfl,trivial⟩) ⟨hlt,hj2,hk.trans hk2,fun j hj=>?_⟩ (by simp only;omega)
    rcases Nat.lt_succ_iff_lt_or_eq.1 hj with h | rfl
    ·exact hf j h
    ·exact hb
  ·refine NmP.mk ⟨[],W.mk ?_⟩
   (conv=>whnf)
   have:i = l.length:=by omega
   exact FinHp.of rfl ⟨.inl ⟨rfl,this ▸ hf,this ▸ hji⟩,hk⟩
theorem con100 {l:List Wo} {gf:FuncId} {fs cp:Array Value} {J:Nat→Hp→Hp→Prop} {F:Nat→Prop} {bs:Nat→Bool} (hJ:Judge Tryz.prog (.func (.func gf) fs cp) (fun w=>.agg (woE.f w).toArray) l J F bs false):Sound Tryz.prog 174 id (conS woE l (.func (.func gf) fs cp) J F bs):=by
 refine comp100.hp (Tab.nil _) (fun args p G h=>?_) (fun args p v p' G G' hg h=>⟨conQ_mono hJ.mono hg h.1,h.2⟩) (fun args p G h=>?_)
 ·obtain ⟨v,rfl,_⟩:=h;simp
 ·obtain ⟨v,rfl,hsl,hj⟩:=h
  obtain ⟨a,n,c,rfl,_⟩:=hsl.shape
  (conv=>whnf)
  refine CallH.mk _ (idx116 hJ) body116 (W.mk ?_)
  (conv=>whnf)
  refine HpcP.mk ⟨_,rfl,hsl,hj⟩ (fun v p' G2 hg2 hq=>W.mk ?_)
  obtain ⟨hq,hk⟩:=hq
  rcases hq with ⟨rfl,hf,hj2⟩ | ⟨i,hi,rfl,hb,hf,hj2⟩
  ·dsimp only
   (conv=>whnf)
   refine IteP.mk (fun h=>by exfalso;omega) (fun h=>W.mk ?_)
   (conv=>whnf)
   refine NmP.mk ⟨[],W.mk ?_⟩
   (conv=>whnf)
   exact FinHp.of rfl ⟨.inl ⟨rfl,hf,hj2⟩,hk⟩
  ·dsimp only
   (conv=>whnf)
   refine IteP.mk (fun h=>W.mk ?_) (fun h=>by exfalso;omega)
   (conv=>whnf)
   refine NmP.mk ⟨[],W.mk ?_⟩
   (conv=>whnf)
   exact FinHp.of rfl ⟨.inr ⟨i,hi,rfl,hb,hf,hj2⟩,hk⟩
theorem clo101 {l:List Wo} {gf:FuncId} {fs cp:Array Value} {J:Nat→Hp→Hp→Prop} {F:Nat→Prop} {bs:Nat→Bool} (hJ:Judge Tryz.prog (.func (.func gf) fs cp) (fun w=>.agg (woE.f w).toArray) l J F bs true) {b:Nat} (hb:¬ F b):Judge Tryz.prog (.func (.func 175) #[] #[ptr b]) (fun w=>.agg (woE.f w).toArray) l (fun i p G=>J i p G∧p b = some (.cells #[.func (.func gf) fs cp] 240 (0,0))) F (fun i=>!(bs i)) false:=by
 refine ⟨fun i hi hpr=>SoundFn.of body101 ?_,fun i p p' G hp h=>⟨hJ.up i p p' G hp h.1,hp _ _ h.2⟩,fun i p G G' hg h=>⟨hJ.mono i p G G' hg h.1,h.2⟩,fun i p G k h hk=>hJ.has i p G k h.1 hk⟩
 have hcall:=hJ.call i hi (fun j hj=>by simpa using hpr j hj)
 refine comp101.hp (Tab.nil _) (fun args p G h=>?_) (fun args p v p' G G' hg h=>⟨h.1,⟨hJ.mono _ _ _ _ hg h.2.1.1,h.2.1.2⟩,h.2.2⟩) (fun args p G h=>?_)
 ·obtain ⟨rfl,_⟩:=h;simp
 ·obtain ⟨rfl,hj,hbx⟩:=h
  generalize l[i] = x at hcall
  (conv=>whnf)
  refine RdhP.h (ds:=[.func (.func gf) fs cp]) hbx rfl (W.mk ?_)
  (conv=>whnf)
  refine CallvP.fn _ hcall (W.mk ?_)
  (conv=>whnf)
  refine HpcP.mk ⟨rfl,hj⟩ (fun v p' G2 hg2 hq=>W.mk ?_)
  obtain ⟨rfl,hj2,hk2⟩:=hq
  dsimp only
  (conv=>whnf)
  refine ForkP.mk (fun he=>W.mk ?_) (fun he=>W.mk ?_)<;>(conv=>whnf)<;>refine NmP.mk ⟨[],W.mk ?_⟩<;>(conv=>whnf)<;>refine FinHp.of rfl ⟨?_,⟨hj2,hk2 _ _ hb hbx⟩,hk2⟩<;>rw [he]<;>rfl
theorem all79 {l:List Wo} {gf:FuncId} {fs cp:Array Value} {J:Nat→Hp→Hp→Prop} {F:Nat→Prop} {bs:Nat→Bool} (hJ:Judge Tryz.prog (.func (.func gf) fs cp) (fun w=>.agg (woE.f w).toArray) l J F bs true):Sound Tryz.prog 114 id (allS woE l (.func (.func gf) fs cp) J F bs):=by
 refine comp79.hp (Tab.nil _) (fun args p G h=>?_) (fun args p v p' G G' hg h=>⟨allQ_mono hJ.mono hg h.1,h.2⟩) (fun args p G h=>?_)
 ·obtain ⟨v,rfl,_⟩:=h;simp
 ·obtain ⟨v,rfl,hsl,hj⟩:=h
  obtain ⟨a,n,c,rfl,_⟩:=hsl.shape
  (conv=>whnf)
  refine NewP.mk (fun b hb=>W.mk ?_)
  (conv=>whnf)
  have hF:¬ F b:=fun h=>by obtain ⟨o,e⟩:=hJ.has 0 p G b hj h;rw [hb] at e;cases e
  have hup:∀ k o,p k = some o→upd p b (some (.cells #[Value.func (.func gf) fs cp] 240 (0,0))) k = some o:=fun k o e=>by
   rw [upd_other _ _ (fun h=>by rw [h,hb] at e;cases e)];exact e
  refine CallH.mk _ (con100 (clo101 hJ hF)) body100 (W.mk ?_)
  (conv=>whnf)
  refine HpcP.mk ⟨_,rfl,hsl.up hup,hJ.up 0 _ _ _ hup hj,upd_same _ _ _⟩ (fun v p' G2 hg2 hq=>W.mk ?_)
  obtain ⟨hq,hk⟩:=hq
  have hk2:KeepHp F p p':=fun k o h1 h2=>hk k o h1 (hup k o h2)
  rcases hq with ⟨rfl,hf,hj2,_⟩ | ⟨i,hi,rfl,hbi,hf,hj2,_⟩
  ·dsimp only
   (conv=>whnf)
   refine ForkP.mk (fun h=>by cases h) (fun _=>W.mk ?_)
   (conv=>whnf)
   refine NmP.mk ⟨[],W.mk ?_⟩
   (conv=>whnf)
   exact FinHp.of rfl ⟨.inl ⟨rfl,fun i hi=>by simpa using hf i hi,hj2⟩,hk2⟩
  ·dsimp only
   (conv=>whnf)
   refine ForkP.mk (fun _=>W.mk ?_) (fun h=>by cases h)
   (conv=>whnf)
   refine NmP.mk ⟨[],W.mk ?_⟩
   (conv=>whnf)
   exact FinHp.of rfl ⟨.inr ⟨rfl,i,hi,by simpa using hbi,fun j hj=>by simpa using hf j hj,hj2⟩,hk2⟩
theorem idx111 {l:List It} {gf:FuncId} {fs cp:Array Value} {J:Nat→Hp→Hp→Prop} {F:Nat→Prop} {bs:Nat→Bool} (hJ:Judge Tryz.prog (.func (.func gf) fs cp) (fun w=>.agg (itE.f w).toArray) l J F bs false):Sound Tryz.prog 182 id (idxS itE l (.func (.func gf) fs cp) J F bs):=by
 refine comp111.hp (Tab.nil _) (fun args p G h=>?_) (fun args p v p' G G' hg h=>⟨idxQ_mono hJ.mono hg h.1,h.2⟩) (fun args p G h=>?_)
 ·obtain ⟨v,rfl,_⟩:=h;simp
 ·obtain ⟨v,rfl,hsl,hj⟩:=h
  obtain ⟨a,n,c,rfl,hlen,hn,hsome⟩:=hsl.shape
  (conv=>whnf)
  refine LoopP.of { α:=Nat × Hp,fr:=fun y=>[(0, .v (.slice a n c)),(1, .v (.func (.func gf) fs cp)),(6, .v (.slice a n c)),(7, .v (I n)),(8, .v (I y.1))],H:=fun y=>[(0, .heap y.2)],ok:=fun y G=>y.1≤l.length∧J y.1 y.2 G∧KeepHp F p y.2∧∀ j < y.1,bs j = false,m:=fun y=>l.length - y.1 }
   (0,p) (HeadP.of [] ⟨rfl,rfl,rfl,rfl,rfl,trivial⟩ ⟨rfl,trivial⟩) ⟨Nat.zero_le _,hj,KeepHp.refl,fun j hj=>by omega⟩ (fun _=>⟨rfl,rfl⟩) (fun y G1 hg1 hx=>W.mk ?_)
  obtain ⟨i,q⟩:=y
  obtain ⟨hi,hji,hk,hf⟩:=hx
  dsimp only at hi hji hk hf
  dsimp only
  (conv=>whnf)
  refine IteP.mk (fun hlt=>W.mk ?_) (fun hge=>W.mk ?_)<;>(conv=>whnf)
  ·have hlt:i < l.length:=by omega
   have hce:=(hsl.grow hg1).keep hk
   have hcall:=hJ.call i hlt hf
   (refine ob ?_ ?_;(first | trivial | omega | (simp only [inR];omega) | exact ble (by rfl) | exact SlR.some ‹_› (by omega));(conv=>whnf))
   refine OblP.mk (hsome (by omega)) (W.mk ?_)
   (conv=>whnf)
   refine hce.rd hlt (W.mk ?_)
   (conv=>whnf)
   refine CallvP.fn _ hcall (W.mk ?_)
   (conv=>whnf)
   refine HpcP.mk ⟨rfl,hji⟩ (fun v p' G2 hg2 hq=>W.mk ?_)
   obtain ⟨rfl,hj2,hk2⟩:=hq
   dsimp only
   (conv=>whnf)
   refine ForkP.mk (fun hb=>W.mk ?_) (fun hb=>W.mk ?_)<;>(conv=>whnf)
   ·refine NmP.mk ⟨[],W.mk ?_⟩
    (conv=>whnf)
    exact FinHp.of rfl ⟨.inr ⟨i,hlt,rfl,hb,hf,hj2⟩,hk.trans hk2⟩
   ·(refine ob ?_ ?_;(first | trivial | omega | (simp only [inR];omega) | exact ble (by rfl) | exact SlR.some ‹_› (by omega));(conv=>whnf))
    refine RoundP.of (i + 1,p') (HeadP.of [] ⟨rfl,rfl,rfl,rfl,rfl,trivial⟩ ⟨rfl,trivial⟩) ⟨hlt,hj2,hk.trans hk2,fun j hj=>?_⟩ (by simp only;omega)
    rcases Nat.lt_succ_iff_lt_or_eq.1 hj with h | rfl
    ·exact hf j h
    ·exact hb
  ·refine NmP.mk ⟨[],W.mk ?_⟩
   (conv=>whnf)
   have:i = l.length:=by omega
   exact FinHp.of rfl ⟨.inl ⟨rfl,this ▸ hf,this ▸ hji⟩,hk⟩
theorem con105 {l:List It} {gf:FuncId} {fs cp:Array Value} {J:Nat→Hp→Hp→Prop} {F:Nat→Prop} {bs:Nat→Bool} (hJ:Judge Tryz.prog (.func (.func gf) fs cp) (fun w=>.agg (itE.f w).toArray) l J F bs false):Sound Tryz.prog 214 id (conS itE l (.func (.func gf) fs cp) J F bs):=by
 refine comp105.hp (Tab.nil _) (fun args p G h=>?_) (fun args p v p' G G' hg h=>⟨conQ_mono hJ.mono hg h.1,h.2⟩) (fun args p G h=>?_)
 ·obtain ⟨v,rfl,_⟩:=h;simp
 ·obtain ⟨v,rfl,hsl,hj⟩:=h
  obtain ⟨a,n,c,rfl,_⟩:=hsl.shape
  (conv=>whnf)
  refine CallH.mk _ (idx111 hJ) body111 (W.mk ?_)
  (conv=>whnf)
  refine HpcP.mk ⟨_,rfl,hsl,hj⟩ (fun v p' G2 hg2 hq=>W.mk ?_)
  obtain ⟨hq,hk⟩:=hq
  rcases hq with ⟨rfl,hf,hj2⟩ | ⟨i,hi,rfl,hb,hf,hj2⟩
  ·dsimp only
   (conv=>whnf)
   refine IteP.mk (fun h=>by exfalso;omega) (fun h=>W.mk ?_)
   (conv=>whnf)
   refine NmP.mk ⟨[],W.mk ?_⟩
   (conv=>whnf)
   exact FinHp.of rfl ⟨.inl ⟨rfl,hf,hj2⟩,hk⟩
  ·dsimp only
   (conv=>whnf)
   refine IteP.mk (fun h=>W.mk ?_) (fun h=>by exfalso;omega)
   (conv=>whnf)
   refine NmP.mk ⟨[],W.mk ?_⟩
   (conv=>whnf)
   exact FinHp.of rfl ⟨.inr ⟨i,hi,rfl,hb,hf,hj2⟩,hk⟩
theorem clo106 {l:List It} {gf:FuncId} {fs cp:Array Value} {J:Nat→Hp→Hp→Prop} {F:Nat→Prop} {bs:Nat→Bool} (hJ:Judge Tryz.prog (.func (.func gf) fs cp) (fun w=>.agg (itE.f w).toArray) l J F bs true) {b:Nat} (hb:¬ F b):Judge Tryz.prog (.func (.func 215) #[] #[ptr b]) (fun w=>.agg (itE.f w).toArray) l (fun i p G=>J i p G∧p b = some (.cells #[.func (.func gf) fs cp] 246 (0,0))) F (fun i=>!(bs i)) false:=by
 refine ⟨fun i hi hpr=>SoundFn.of body106 ?_,fun i p p' G hp h=>⟨hJ.up i p p' G hp h.1,hp _ _ h.2⟩,fun i p G G' hg h=>⟨hJ.mono i p G G' hg h.1,h.2⟩,fun i p G k h hk=>hJ.has i p G k h.1 hk⟩
 have hcall:=hJ.call i hi (fun j hj=>by simpa using hpr j hj)
 refine comp106.hp (Tab.nil _) (fun args p G h=>?_) (fun args p v p' G G' hg h=>⟨h.1,⟨hJ.mono _ _ _ _ hg h.2.1.1,h.2.1.2⟩,h.2.2⟩) (fun args p G h=>?_)
 ·obtain ⟨rfl,_⟩:=h;simp
 ·obtain ⟨rfl,hj,hbx⟩:=h
  generalize l[i] = x at hcall
  (conv=>whnf)
  refine RdhP.h (ds:=[.func (.func gf) fs cp]) hbx rfl (W.mk ?_)
  (conv=>whnf)
  refine CallvP.fn _ hcall (W.mk ?_)
  (conv=>whnf)
  refine HpcP.mk ⟨rfl,hj⟩ (fun v p' G2 hg2 hq=>W.mk ?_)
  obtain ⟨rfl,hj2,hk2⟩:=hq
  dsimp only
  (conv=>whnf)
  refine ForkP.mk (fun he=>W.mk ?_) (fun he=>W.mk ?_)<;>(conv=>whnf)<;>refine NmP.mk ⟨[],W.mk ?_⟩<;>(conv=>whnf)<;>refine FinHp.of rfl ⟨?_,⟨hj2,hk2 _ _ hb hbx⟩,hk2⟩<;>rw [he]<;>rfl
theorem all83 {l:List It} {gf:FuncId} {fs cp:Array Value} {J:Nat→Hp→Hp→Prop} {F:Nat→Prop} {bs:Nat→Bool} (hJ:Judge Tryz.prog (.func (.func gf) fs cp) (fun w=>.agg (itE.f w).toArray) l J F bs true):Sound Tryz.prog 180 id (allS itE l (.func (.func gf) fs cp) J F bs):=by
 refine comp83.hp (Tab.nil _) (fun args p G h=>?_) (fun args p v p' G G' hg h=>⟨allQ_mono hJ.mono hg h.1,h.2⟩) (fun args p G h=>?_)
 ·obtain ⟨v,rfl,_⟩:=h;simp
 ·obtain ⟨v,rfl,hsl,hj⟩:=h
  obtain ⟨a,n,c,rfl,_⟩:=hsl.shape
  (conv=>whnf)
  refine NewP.mk (fun b hb=>W.mk ?_)
  (conv=>whnf)
  have hF:¬ F b:=fun h=>by obtain ⟨o,e⟩:=hJ.has 0 p G b hj h;rw [hb] at e;cases e
  have hup:∀ k o,p k = some o→upd p b (some (.cells #[Value.func (.func gf) fs cp] 246 (0,0))) k = some o:=fun k o e=>by
   rw [upd_other _ _ (fun h=>by rw [h,hb] at e;cases e)];exact e
  refine CallH.mk _ (con105 (clo106 hJ hF)) body105 (W.mk ?_)
  (conv=>whnf)
  refine HpcP.mk ⟨_,rfl,hsl.up hup,hJ.up 0 _ _ _ hup hj,upd_same _ _ _⟩ (fun v p' G2 hg2 hq=>W.mk ?_)
  obtain ⟨hq,hk⟩:=hq
  have hk2:KeepHp F p p':=fun k o h1 h2=>hk k o h1 (hup k o h2)
  rcases hq with ⟨rfl,hf,hj2,_⟩ | ⟨i,hi,rfl,hbi,hf,hj2,_⟩
  ·dsimp only
   (conv=>whnf)
   refine ForkP.mk (fun h=>by cases h) (fun _=>W.mk ?_)
   (conv=>whnf)
   refine NmP.mk ⟨[],W.mk ?_⟩
   (conv=>whnf)
   exact FinHp.of rfl ⟨.inl ⟨rfl,fun i hi=>by simpa using hf i hi,hj2⟩,hk2⟩
  ·dsimp only
   (conv=>whnf)
   refine ForkP.mk (fun _=>W.mk ?_) (fun h=>by cases h)
   (conv=>whnf)
   refine NmP.mk ⟨[],W.mk ?_⟩
   (conv=>whnf)
   exact FinHp.of rfl ⟨.inr ⟨rfl,i,hi,by simpa using hbi,fun j hj=>by simpa using hf j hj,hj2⟩,hk2⟩
end Go.Proofs.YtefnikpoimaiiaaGreat

namespace Go.Proofs.YtefnikpoimaiiaaGreat
open Go.Pal Go.RowKit
set_option maxRecDepth 100000
abbrev Keep (p p':Hp):Prop:=KeepHp (fun _=>False) p p'
theorem Sound.hpImp {P:Program} {f:FuncId} {sh:List Value→List Value} {pre pre':List Value→Hp→Hp→Prop} {q q':List Value→Hp→Value→Hp→Hp→Prop} (h:Sound P f sh (.hp pre q)) (h1:∀ args p G,Disj p G→pre' args p G→pre args p G) (h2:∀ args p v p' G,q args p v p' G→q' args p v p' G)
  (hm:∀ args p v p' G G',Grow G G'→q' args p v p' G→q' args p v p' G'):Sound P f sh (.hp pre' q') :=
 ⟨hm,fun args p G W hs hp hpre=>(h.2 args p G W hs hp (h1 args p G (fun b o e=>(hp b o e).2) hpre)).mono fun e W' ⟨v,p',G',k1,k2,k3⟩=>⟨v,p',G',k1,h2 _ _ _ _ _ k2,k3⟩⟩
def pureS (pre:List Value→Hp→Prop) (v0:Value):PSpec:=.hp (fun args _ G=>pre args G) fun _ p v p' _=>v = v0∧Keep p p'
def inF (n lo hi:Int):Bool:=decide (lo≤n∧n≤hi)
def inS:PSpec:=.fn (fun args _=>∃ n lo hi,args = [I n,I lo,I hi]) (fun args=>match args with | [.int _ n, .int _ lo, .int _ hi]=>.bool (inF n lo hi) | _=>undef)
theorem within77:Sound Tryz.prog 112 id inS:=by
 refine comp77.fn (Tab.nil _) (fun args G h=>?_) (fun args G h=>?_)
 ·obtain ⟨n,lo,hi,rfl⟩:=h;simp
 ·obtain ⟨n,lo,hi,rfl⟩:=h
  (conv=>whnf)
  repeat' (first | (refine IteP.mk (fun _=>W.mk ?_) (fun _=>W.mk ?_)<;>(conv=>whnf)) | (refine ob ?_ ?_;(first | trivial | omega | (simp only [inR];omega) | exact ble (by rfl) | exact SlR.some ‹_› (by omega));(conv=>whnf)) | (refine ForkP.mk (fun _=>W.mk ?_) (fun _=>W.mk ?_)<;>(conv=>whnf)) | (refine ra ‹_› (by rfl) ?_;(conv=>whnf)) | (refine rb ‹_› (by rfl) ?_;(conv=>whnf)) | (refine rc ‹_› (by rfl) ?_;(conv=>whnf)) | (refine rd ‹_› (by rfl) ?_;(conv=>whnf)) | (refine FinP.mk ?_))
  all_goals (refine congrArg Value.bool ?_;simp [inF, *])
def byteF (n:Int):Bool:=decide (33≤n∧n≤126)
theorem byte99:Sound Tryz.prog 173 id (.fn (fun args _=>∃ n,args = [U n]) fun args=>match args with | [.int _ n]=>.bool (byteF n) | _=>undef):=by
 refine comp99.fn (Tab.nil _) (fun args G h=>?_) (fun args G h=>?_)
 ·obtain ⟨n,rfl⟩:=h;simp
 ·obtain ⟨n,rfl⟩:=h
  (conv=>whnf)
  repeat' (first | (refine IteP.mk (fun _=>W.mk ?_) (fun _=>W.mk ?_)<;>(conv=>whnf)) | (refine ob ?_ ?_;(first | trivial | omega | (simp only [inR];omega) | exact ble (by rfl) | exact SlR.some ‹_› (by omega));(conv=>whnf)) | (refine ForkP.mk (fun _=>W.mk ?_) (fun _=>W.mk ?_)<;>(conv=>whnf)) | (refine ra ‹_› (by rfl) ?_;(conv=>whnf)) | (refine rb ‹_› (by rfl) ?_;(conv=>whnf)) | (refine rc ‹_› (by rfl) ?_;(conv=>whnf)) | (refine rd ‹_› (by rfl) ?_;(conv=>whnf)) | (refine FinP.mk ?_))
  all_goals (refine congrArg Value.bool ?_;simp [byteF, *])
theorem Judge.pure {P:Program} {α:Type} {gf:FuncId} {va:α→Value} {l:List α} {b:α→Bool} (hb:HasBody P gf) (h:∀ x∈l,Sound P gf id (pureS (fun args _=>args = [va x]) (.bool (b x)))) (d:α):Judge P (.func (.func gf) #[] #[]) va l (fun _ _ _=>True) (fun _=>False) (fun i=>b (l.getD i d)) true:=by
 refine ⟨fun i hi _=>SoundFn.of hb (Sound.bare ?_),fun _ _ _ _ _ _=>trivial,fun _ _ _ _ _ _=>trivial,fun _ _ _ _ _ h=>h.elim⟩
 have:=h l[i] (List.getElem_mem hi)
 refine Sound.hpImp this (fun args p G _ hp=>hp.1) (fun args p v p' G hq=>⟨?_,trivial,hq.2⟩) (fun args p v p' G G' hg h=>h)
 rw [hq.1];simp [hi]
theorem Sound.pureFn {P:Program} {f:FuncId} {pre:List Value→Hp→Prop} {val:List Value→Value} (h:Sound P f id (.fn pre val)) {args0:List Value} (hp:∀ G,pre args0 G):Sound P f id (pureS (fun args _=>args = args0) (val args0)):=by
 have h2:Sound P f id (.sca (fun args _=>args = args0) fun _ _ v=>v = val args0):=fun args G W hs e=>by
  subst e
  exact (h _ G W hs (hp G)).mono fun e W' ⟨k1,k2⟩=>⟨_,k1,rfl,k2⟩
 refine Sound.hpImp (Sound.hpSca h2) (fun args p G _ e G1 _ _=>e) (fun args p v p' G hq=>?_) (fun args p v p' G G' hg h=>h)
 obtain ⟨rfl,G0,G1,_,rfl⟩:=hq
 exact ⟨rfl,KeepHp.refl⟩
theorem flat1 {α:Type} (f:α→Value):∀ l:List α,(l.map fun x=>[f x]).flatten = l.map f
 | []=>rfl
 | x :: r=>by rw [List.map_cons,List.flatten_cons,flat1 f r];rfl
theorem all_t {α:Type} {b:α→Bool} {l:List α} {d:α} (h:∀ i < l.length,b (l.getD i d) = true):l.all b = true:=by
 rw [List.all_eq_true]
 intro x hx
 obtain ⟨i,hi,rfl⟩:=List.mem_iff_getElem.1 hx
 simpa [hi] using h i hi
theorem all_f {α:Type} {b:α→Bool} {l:List α} {d:α} {i:Nat} (hi:i < l.length) (h:b (l.getD i d) = false):l.all b = false:=by
 cases hb:l.all b with
 | false=>rfl
 | true =>
  rw [List.all_eq_true] at hb
  have:=hb l[i] (List.getElem_mem hi)
  simp [hi] at h
  rw [h] at this;cases this
def bytesF (s:ByteArray):List Int:=s.data.toList.map fun b=>(b.toNat:Int)
def textF (s:ByteArray):Bool:=inF s.size 1 32 && (bytesF s).all byteF
theorem text76 (s:ByteArray):Sound Tryz.prog 111 id (pureS (fun args _=>args = [.string s]) (.bool (textF s))):=by
 refine comp76.hp (Tab.nil _) (fun args p G h=>?_) (fun args p v p' G G' hg h=>h) (fun args p G h=>?_)
 ·subst h;simp
 ·subst h
  (conv=>whnf)
  refine CallH.mk _ within77 body77 (W.mk ?_)
  (conv=>whnf)
  refine OblP.mk ⟨_,_,_,rfl⟩ (W.mk ?_)
  (conv=>whnf)
  refine ForkP.mk (fun h1=>W.mk ?_) (fun h1=>W.mk ?_)<;>(conv=>whnf)
  ·refine RelP.mk trivial (fun v G1 hg1 hq=>W.mk ?_)
   obtain ⟨a,c,rfl,hp1⟩:=hq
   (conv=>whnf)
   have hs32:s.size≤32:=by simp [inF] at h1;omega
   have hsl:SlV u8E G1 (.slice a s.size c) (bytesF s):=hp1.slV (by rw [bytesF,show u8E.f = fun x=>[U x] from rfl,flat1];simp [U]) (by simp [bytesF]) (by omega)
   refine CallH.mk _ (all98 (l:=bytesF s) (Judge.pure (b:=byteF) body99 (fun x _=>Sound.pureFn byte99 (args0:=[U x]) (fun _=>⟨x,rfl⟩)) 0)) body98 (W.mk ?_)
   (conv=>whnf)
   refine HpcP.mk ⟨_,rfl, .inl hsl,trivial⟩ (fun v p' G2 hg2 hq=>W.mk ?_)
   obtain ⟨hq,hk⟩:=hq
   rcases hq with ⟨rfl,hf,_⟩ | ⟨rfl,i,hi,hbi,_⟩
   ·dsimp only
    (conv=>whnf)
    refine ForkP.mk (fun _=>W.mk ?_) (fun h=>by cases h)
    (conv=>whnf)
    refine NmP.mk ⟨[],W.mk ?_⟩
    (conv=>whnf)
    refine FinHp.of rfl ⟨?_,hk⟩
    refine congrArg Value.bool ?_
    rw [textF,h1,all_t hf];rfl
   ·dsimp only
    (conv=>whnf)
    refine ForkP.mk (fun h=>by cases h) (fun _=>W.mk ?_)
    (conv=>whnf)
    refine NmP.mk ⟨[],W.mk ?_⟩
    (conv=>whnf)
    refine FinHp.of rfl ⟨?_,hk⟩
    refine congrArg Value.bool ?_
    rw [textF,h1,all_f hi hbi];rfl
  ·refine NmP.mk ⟨[],W.mk ?_⟩
   (conv=>whnf)
   refine FinHp.of rfl ⟨?_,KeepHp.refl⟩
   refine congrArg Value.bool ?_
   rw [textF,h1];rfl
theorem texts59 (l:List ByteArray) (lo hi:Int):Sound Tryz.prog 118 id (pureS (fun args G=>∃ v,args = [v,I lo,I hi]∧SlV strE G v l) (.bool (inF l.length lo hi && l.all textF))):=by
 refine comp59.hp (Tab.nil _) (fun args p G h=>?_) (fun args p v p' G G' hg h=>h) (fun args p G h=>?_)
 ·obtain ⟨v,rfl,_⟩:=h;simp
 ·obtain ⟨v,rfl,hsl⟩:=h
  obtain ⟨a,n,c,rfl,hl,hn⟩:=id hsl
  have hlen:=hl.len
  (conv=>whnf)
  refine CallH.mk _ within77 body77 (W.mk ?_)
  (conv=>whnf)
  refine OblP.mk ⟨_,_,_,rfl⟩ (W.mk ?_)
  (conv=>whnf)
  refine ForkP.mk (fun h1=>W.mk ?_) (fun h1=>W.mk ?_)<;>(conv=>whnf)
  ·refine CallH.mk _ (all85 (l:=l) (Judge.pure (b:=textF) (d:=default) body76 (fun x _=>text76 x))) body85 (W.mk ?_)
   (conv=>whnf)
   refine HpcP.mk ⟨_,rfl, .inl hsl,trivial⟩ (fun v p' G2 hg2 hq=>W.mk ?_)
   obtain ⟨hq,hk⟩:=hq
   rcases hq with ⟨rfl,hf,_⟩ | ⟨rfl,i,hi,hbi,_⟩
   ·dsimp only
    (conv=>whnf)
    refine ForkP.mk (fun _=>W.mk ?_) (fun h=>by cases h)
    (conv=>whnf)
    refine NmP.mk ⟨[],W.mk ?_⟩
    (conv=>whnf)
    refine FinHp.of rfl ⟨?_,hk⟩
    refine congrArg Value.bool ?_
    rw [hlen,h1,all_t hf];rfl
   ·dsimp only
    (conv=>whnf)
    refine ForkP.mk (fun h=>by cases h) (fun _=>W.mk ?_)
    (conv=>whnf)
    refine NmP.mk ⟨[],W.mk ?_⟩
    (conv=>whnf)
    refine FinHp.of rfl ⟨?_,hk⟩
    refine congrArg Value.bool ?_
    rw [hlen,h1,all_f hi hbi];rfl
  ·refine NmP.mk ⟨[],W.mk ?_⟩
   (conv=>whnf)
   refine FinHp.of rfl ⟨?_,KeepHp.refl⟩
   refine congrArg Value.bool ?_
   rw [hlen,h1];rfl
structure Dr where
 ws:List Wo
 ks:List Int
instance:Inhabited Wo:=⟨⟨default,0,0⟩⟩
def secAt (l:List Wo) (i:Nat):Int:=if i = 0 then 0 else (l.getD (i - 1) default).s
def woOk (l:List Wo) (i:Nat):Bool:=textF (l.getD i default).t && inF (l.getD i default).s (secAt l i) 36000 && inF (l.getD i default).r 0 99
def keptAt (l:List Int) (i:Nat):Int:=if i = 0 then -1 else l.getD (i - 1) 0
def keOk (n:Nat) (l:List Int) (i:Nat):Bool:=inF (l.getD i 0) (keptAt l i + 1) ((n:Int) - 1)
def validF (d:Dr):Bool:=decide (d.ws.length≤60) && (List.range d.ws.length).all (woOk d.ws) && (List.range d.ks.length).all (keOk d.ws.length d.ks)
theorem word75 (l:List Wo) (b:Nat):Judge Tryz.prog (.func (.func 110) #[] #[ptr b]) (fun w=>.agg (woE.f w).toArray) l (fun i p _=>p b = some (.cells #[I (secAt l i)] 3 (0,0))) (fun k=>k = b) (woOk l) true:=by
 refine ⟨fun i hi _=>SoundFn.of body75 ?_,fun i p p' G hp h=>hp _ _ h,fun i p G G' _ h=>h,fun i p G k h hk=>hk ▸ ⟨_,h⟩⟩
 refine comp75.hp (Tab.nil _) (fun args p G h=>?_) (fun args p v p' G G' hg h=>h) (fun args p G h=>?_)
 ·obtain ⟨rfl,_⟩:=h;simp
 ·obtain ⟨rfl,hj⟩:=h
  have hw:l.getD i default = l[i]:=by simp [hi]
  have hs:secAt l (i + 1) = l[i].s:=by simp [secAt,hi]
  have hwo:woOk l i = (textF l[i].t && inF l[i].s (secAt l i) 36000 && inF l[i].r 0 99):=by rw [woOk,hw]
  generalize l[i] = x at hw hs hwo
  generalize secAt l i = sec at hj hwo
  (conv=>whnf)
  refine CallH.mk _ (text76 x.t) body76 (W.mk ?_)
  (conv=>whnf)
  refine HpcP.mk rfl (fun v p1 G1 hg1 hq=>W.mk ?_)
  obtain ⟨rfl,hk1⟩:=hq
  dsimp only
  (conv=>whnf)
  refine ForkP.mk (fun e1=>W.mk ?_) (fun e1=>W.mk ?_)<;>(conv=>whnf)
  ·refine RdhP.h (ds:=[I sec]) (hk1 _ _ id hj) rfl (W.mk ?_)
   (conv=>whnf)
   refine CallH.mk _ within77 body77 (W.mk ?_)
   (conv=>whnf)
   refine OblP.mk ⟨_,_,_,rfl⟩ (W.mk ?_)
   (conv=>whnf)
   refine ForkP.mk (fun e2=>W.mk ?_) (fun e2=>W.mk ?_)<;>(conv=>whnf)
   ·refine CallH.mk _ within77 body77 (W.mk ?_)
    (conv=>whnf)
    refine OblP.mk ⟨_,_,_,rfl⟩ (W.mk ?_)
    (conv=>whnf)
    refine ForkP.mk (fun e3=>W.mk ?_) (fun e3=>W.mk ?_)<;>(conv=>whnf)
    ·have hj1:=hk1 _ _ id hj
     refine HpkP.mk ⟨[I sec],3,hj1,W.mk ?_⟩
     (conv=>whnf)
     (refine ob ?_ ?_;(first | trivial | omega | (simp only [inR];omega) | exact ble (by rfl) | exact SlR.some ‹_› (by omega));(conv=>whnf))
     refine NmP.mk ⟨[],W.mk ?_⟩
     (conv=>whnf)
     refine FinHp.of rfl ⟨?_, ?_, ?_⟩
     ·refine congrArg Value.bool ?_
      rw [hwo];simp [*]
     ·rw [hs];exact upd_same _ _ _
     ·intro k o hk e
      rw [upd_other _ _ hk];exact hk1 _ _ id e
    ·have hj1:=hk1 _ _ id hj
     refine HpkP.mk ⟨[I sec],3,hj1,W.mk ?_⟩
     (conv=>whnf)
     (refine ob ?_ ?_;(first | trivial | omega | (simp only [inR];omega) | exact ble (by rfl) | exact SlR.some ‹_› (by omega));(conv=>whnf))
     refine NmP.mk ⟨[],W.mk ?_⟩
     (conv=>whnf)
     refine FinHp.of rfl ⟨?_, ?_, ?_⟩
     ·refine congrArg Value.bool ?_
      rw [hwo];simp [*]
     ·rw [hs];exact upd_same _ _ _
     ·intro k o hk e
      rw [upd_other _ _ hk];exact hk1 _ _ id e
   ·have hj1:=hk1 _ _ id hj
    refine HpkP.mk ⟨[I sec],3,hj1,W.mk ?_⟩
    (conv=>whnf)
    (refine ob ?_ ?_;(first | trivial | omega | (simp only [inR];omega) | exact ble (by rfl) | exact SlR.some ‹_› (by omega));(conv=>whnf))
    refine NmP.mk ⟨[],W.mk ?_⟩
    (conv=>whnf)
    refine FinHp.of rfl ⟨?_, ?_, ?_⟩
    ·refine congrArg Value.bool ?_
     rw [hwo];simp [*]
    ·rw [hs];exact upd_same _ _ _
    ·intro k o hk e
     rw [upd_other _ _ hk];exact hk1 _ _ id e
  ·have hj1:=hk1 _ _ id hj
   refine HpkP.mk ⟨[I sec],3,hj1,W.mk ?_⟩
   (conv=>whnf)
   (refine ob ?_ ?_;(first | trivial | omega | (simp only [inR];omega) | exact ble (by rfl) | exact SlR.some ‹_› (by omega));(conv=>whnf))
   refine NmP.mk ⟨[],W.mk ?_⟩
   (conv=>whnf)
   refine FinHp.of rfl ⟨?_, ?_, ?_⟩
   ·refine congrArg Value.bool ?_
    rw [hwo];simp [*]
   ·rw [hs];exact upd_same _ _ _
   ·intro k o hk e
    rw [upd_other _ _ hk];exact hk1 _ _ id e
theorem kept78 (ws:List Wo) (l:List Int) (hws:ws.length≤1000) {b2 b3:Nat} (hne:b3≠b2) {a:Option Addr} {c:Nat} {k:Value}:Judge Tryz.prog (.func (.func 113) #[] #[ptr b2,ptr b3]) (fun n=>I n) l (fun i p _=>p b2 = some (.cells #[I (keptAt l i)] 3 (0,0))∧p b3 = some (.cells #[.slice a ws.length c,k] 84 (0,0))) (fun k=>k = b2) (keOk ws.length l) true:=by
 refine ⟨fun i hi hpr=>SoundFn.of body78 ?_,fun i p p' G hp h=>⟨hp _ _ h.1,hp _ _ h.2⟩,fun i p G G' _ h=>h,fun i p G k h hk=>hk ▸ ⟨_,h.1⟩⟩
 refine comp78.hp (Tab.nil _) (fun args p G h=>?_) (fun args p v p' G G' hg h=>h) (fun args p G h=>?_)
 ·obtain ⟨rfl,_⟩:=h;simp
 ·obtain ⟨rfl,hj,hd⟩:=h
  have hs:keptAt l (i + 1) = l[i]:=by simp [keptAt,hi]
  have hwo:keOk ws.length l i = inF l[i] (keptAt l i + 1) ((ws.length:Int) - 1):=by simp [keOk,hi]
  have hlast:-1≤keptAt l i∧keptAt l i≤1000:=by
   cases i with
   | zero=>simp [keptAt]
   | succ j =>
    have h1:=hpr j (by omega)
    have h0:-1≤keptAt l j:=by
     have:∀ m,m≤j→-1≤keptAt l m:=fun m=>by
      induction m with
      | zero=>intro _;simp [keptAt]
      | succ m ih =>
       intro hm
       have h2:=hpr m (by omega)
       have h3:=ih (by omega)
       simp only [keOk,inF,decide_eq_true_eq] at h2
       simp only [keptAt,Nat.add_one_ne_zero,if_false,Nat.add_sub_cancel]
       omega
     exact this j (Nat.le_refl _)
    simp only [keOk,inF,decide_eq_true_eq] at h1
    simp only [keptAt,Nat.add_one_ne_zero,if_false,Nat.add_sub_cancel]
    omega
  generalize l[i] = x at hs hwo
  generalize keptAt l i = la at hj hwo hlast
  (conv=>whnf)
  refine RdhP.h (ds:=[I la]) hj rfl (W.mk ?_)
  (conv=>whnf)
  (refine ob ?_ ?_;(first | trivial | omega | (simp only [inR];omega) | exact ble (by rfl) | exact SlR.some ‹_› (by omega));(conv=>whnf))
  refine RdhP.h (ds:=[.slice a ws.length c,k]) hd rfl (W.mk ?_)
  (conv=>whnf)
  (refine ob ?_ ?_;(first | trivial | omega | (simp only [inR];omega) | exact ble (by rfl) | exact SlR.some ‹_› (by omega));(conv=>whnf))
  refine CallH.mk _ within77 body77 (W.mk ?_)
  (conv=>whnf)
  refine OblP.mk ⟨_,_,_,rfl⟩ (W.mk ?_)
  (conv=>whnf)
  refine ForkP.mk (fun e1=>W.mk ?_) (fun e1=>W.mk ?_)<;>(conv=>whnf)<;>refine HpkP.mk ⟨[I la],3,hj,W.mk ?_⟩<;>(conv=>whnf)<;>(refine ob ?_ ?_;(first | trivial | omega | (simp only [inR];omega) | exact ble (by rfl) | exact SlR.some ‹_› (by omega));(conv=>whnf))<;>refine NmP.mk ⟨[],W.mk ?_⟩<;>(conv=>whnf)<;>refine FinHp.of rfl ⟨?_,⟨?_, ?_⟩, ?_⟩
  all_goals first
   | (refine congrArg Value.bool ?_;rw [hwo,e1])
   | (rw [hs];exact upd_same _ _ _)
   | (rw [upd_other _ _ hne];exact hd)
   | (intro k o hk e;rw [upd_other _ _ hk];exact e)
theorem valid53 (d:Dr):Sound Tryz.prog 84 id (pureS (fun args G=>∃ w k,args = [.agg #[w,k]]∧SlV woE G w d.ws∧SlV intE G k d.ks) (.bool (validF d))):=by
 refine comp53.hp (Tab.nil _) (fun args p G h=>?_) (fun args p v p' G G' hg h=>h) (fun args p G h=>?_)
 ·obtain ⟨w,k,rfl,_⟩:=h;simp
 ·obtain ⟨w,k,rfl,hw,hk⟩:=h
  obtain ⟨wa,wn,wc,rfl,hw1,hw2⟩:=id hw
  obtain ⟨ka,kn,kc,rfl,hk1,hk2⟩:=id hk
  have hwl:=hw1.len
  (conv=>whnf)
  refine NewP.mk (fun b1 hb1=>W.mk ?_)
  (conv=>whnf)
  refine NewP.mk (fun b2 hb2=>W.mk ?_)
  (conv=>whnf)
  refine NewP.mk (fun b3 hb3=>W.mk ?_)
  (conv=>whnf)
  have n21:b2≠b1:=fun h=>by rw [h,upd_same] at hb2;cases hb2
  have n32:b3≠b2:=fun h=>by rw [h,upd_same] at hb3;cases hb3
  have n31:b3≠b1:=fun h=>by rw [h,upd_other _ _ n21.symm,upd_same] at hb3;cases hb3
  rw [upd_other _ _ n21] at hb2
  rw [upd_other _ _ n32,upd_other _ _ n31] at hb3
  obtain ⟨p3,hp3⟩:∃ p3,p3 = upd (upd (upd p b1 (some (.cells #[.int .i64 0] 3))) b2 (some (.cells #[.int .i64 (-1)] 3))) b3 (some (.cells #[.slice wa wn wc, .slice ka kn kc] 84)):=⟨_,rfl⟩
  have e1:p3 b1 = some (.cells #[I 0] 3):=by rw [hp3,upd_other _ _ n31.symm,upd_other _ _ n21.symm,upd_same]
  have e2:p3 b2 = some (.cells #[I (-1)] 3):=by rw [hp3,upd_other _ _ n32.symm,upd_same]
  have e3:p3 b3 = some (.cells #[.slice wa wn wc, .slice ka kn kc] 84):=by rw [hp3,upd_same]
  have hk3:Keep p p3:=fun b o _ h=>by
   rw [hp3,upd_other _ _ (fun e=>by rw [e,hb3] at h;cases h),upd_other _ _ (fun e=>by rw [e,hb2] at h;cases h),upd_other _ _ (fun e=>by rw [e,hb1] at h;cases h)]
   exact h
  rw [← hp3]
  clear hp3
  refine RdhP.h (ds:=[.slice wa wn wc, .slice ka kn kc]) e3 rfl (W.mk ?_)
  (conv=>whnf)
  have fin:∀ {q:Hp} {b:Bool},validF d = b→Keep p q→(Value.bool b) = .bool (validF d)∧Keep p q:=fun h1 h2=>⟨by rw [h1],h2⟩
  refine IteP.mk (fun h60=>W.mk ?_) (fun h60=>W.mk ?_)<;>(conv=>whnf)
  rotate_left
  ·refine NmP.mk ⟨[],W.mk ?_⟩
   (conv=>whnf)
   refine FinHp.of rfl (fin ?_ hk3)
   rw [validF,decide_eq_false (by omega)];rfl
  refine RdhP.h (ds:=[.slice wa wn wc, .slice ka kn kc]) e3 rfl (W.mk ?_)
  (conv=>whnf)
  refine CallH.mk _ (all79 (word75 d.ws b1)) body79 (W.mk ?_)
  (conv=>whnf)
  refine HpcP.mk ⟨_,rfl, .inl hw,e1⟩ (fun v p4 G4 hg4 hq=>W.mk ?_)
  obtain ⟨hq,hk4⟩:=hq
  rcases hq with ⟨rfl,hf,_⟩ | ⟨rfl,i,hi,hbi,_⟩
  rotate_left
  ·dsimp only
   (conv=>whnf)
   refine ForkP.mk (fun h=>by cases h) (fun _=>W.mk ?_)
   (conv=>whnf)
   refine NmP.mk ⟨[],W.mk ?_⟩
   (conv=>whnf)
   refine FinHp.of rfl (fin ?_ (fun b o hb h=>hk4 b o (fun e=>by rw [e,hb1] at h;cases h) (hk3 b o hb h)))
   have:(List.range d.ws.length).all (woOk d.ws) = false:=by
    cases hh:(List.range d.ws.length).all (woOk d.ws) with
    | false=>rfl
    | true=>rw [List.all_eq_true] at hh;rw [hh i (by simpa using hi)] at hbi;cases hbi
   rw [validF,this];simp
  dsimp only
  (conv=>whnf)
  refine ForkP.mk (fun _=>W.mk ?_) (fun h=>by cases h)
  (conv=>whnf)
  have e2':=hk4 _ _ n21 e2
  have e3':=hk4 _ _ n31 e3
  refine RdhP.h (ds:=[.slice wa wn wc, .slice ka kn kc]) e3' rfl (W.mk ?_)
  (conv=>whnf)
  have hws:(List.range d.ws.length).all (woOk d.ws) = true:=by
   rw [List.all_eq_true];intro i hi;exact hf i (by simpa using hi)
  refine CallH.mk _ (all80 (kept78 d.ws d.ks (by omega) n32 (a:=wa) (c:=wc) (k:=.slice ka kn kc))) body80 (W.mk ?_)
  (conv=>whnf)
  refine HpcP.mk ⟨_,rfl, .inl (hk.grow hg4),e2',hwl ▸ e3'⟩ (fun v p5 G5 hg5 hq=>W.mk ?_)
  obtain ⟨hq,hk5⟩:=hq
  have hkk:Keep p p5:=fun b o hb h=>hk5 b o (fun e=>by rw [e,hb2] at h;cases h) (hk4 b o (fun e=>by rw [e,hb1] at h;cases h) (hk3 b o hb h))
  rcases hq with ⟨rfl,hf5,_⟩ | ⟨rfl,i,hi,hbi,_⟩
  ·dsimp only
   (conv=>whnf)
   refine ForkP.mk (fun _=>W.mk ?_) (fun h=>by cases h)
   (conv=>whnf)
   refine NmP.mk ⟨[],W.mk ?_⟩
   (conv=>whnf)
   refine FinHp.of rfl (fin ?_ hkk)
   have:(List.range d.ks.length).all (keOk d.ws.length d.ks) = true:=by
    rw [List.all_eq_true];intro i hi;exact hf5 i (by simpa using hi)
   rw [validF,hws,this,decide_eq_true (by omega)];rfl
  ·dsimp only
   (conv=>whnf)
   refine ForkP.mk (fun h=>by cases h) (fun _=>W.mk ?_)
   (conv=>whnf)
   refine NmP.mk ⟨[],W.mk ?_⟩
   (conv=>whnf)
   refine FinHp.of rfl (fin ?_ hkk)
   have:(List.range d.ks.length).all (keOk d.ws.length d.ks) = false:=by
    cases hh:(List.range d.ks.length).all (keOk d.ws.length d.ks) with
    | false=>rfl
    | true=>rw [List.all_eq_true] at hh;rw [hh i (by simpa using hi)] at hbi;cases hbi
   rw [validF,this];simp
end Go.Proofs.YtefnikpoimaiiaaGreat

namespace Go.Proofs.YtefnikpoimaiiaaGreat
open Go.Pal Go.RowKit
set_option maxRecDepth 100000
/-! ### A sheet,and its steps -/
instance:Inhabited It:=⟨⟨default,0,0,0⟩⟩
structure Sh where
 its:List It
 live:List Int
 ch:Int
structure Sp where
 u:Int
 a:Int
 c:Int
 put:List ByteArray
def beginIts (ws:List Wo) (n:Nat):List It:=(List.range n).map fun i=>⟨(ws.getD i default).t,(i:Int),0,0⟩
def beginS (d:Dr):Sh:=⟨beginIts d.ws d.ws.length,[],0⟩
def placesN (l:List It) (n:Nat):List Nat:=(List.range n).filter fun i=>(l.getD i default).g = 0
def placesF (l:List It):List Nat:=placesN l l.length
def protF (d:Dr) (x:It):Bool:=decide (x.o∈d.ks)
def cutF (l:List It) (x:Sp):List Nat:=((placesF l).drop x.a.toNat).take x.c.toNat
def fineF (l:List It) (x:Sp):Bool:=decide (0≤x.a) && inF x.c 0 4 && decide (x.a≤((placesF l).length:Int) - x.c) && (inF x.put.length 0 4 && x.put.all textF) && decide (0 < x.c + x.put.length)
def placeF (l:List It) (x:Sp):Nat:=if 0 < x.c then (placesF l).getD x.a.toNat 0 else if 0 < x.a then (placesF l).getD (x.a.toNat - 1) 0 + 1 else 0
def goneF (l:List It) (n:Int) (ps:List Nat):List It:=ps.foldl (fun l i=>l.set i { l.getD i default with g:=n }) l
def putF (n:Int) (put:List ByteArray):List It:=put.map fun t=>⟨t, -1,n,0⟩
def insF {α:Type} (l:List α) (i:Nat) (v:List α):List α:=l.take i++v++l.drop i
def changeF (d:Dr) (S:Sh) (x:Sp):Option Sh :=
 if fineF S.its x = true∧(cutF S.its x).all (fun i=>!protF d (S.its.getD i default)) = true then
  some ⟨insF (goneF S.its (S.ch + 1) (cutF S.its x)) (placeF S.its x) (putF (S.ch + 1) x.put),S.live++[S.ch + 1],S.ch + 1⟩
 else none
def undoableF (S:Sh) (n:Int):Bool:=decide (n∈S.live) && S.its.all fun x=>x.m != n || x.g == 0
def backF (n:Int) (x:It):It:=if x.g = n then { x with g:=0 } else x
def undoF (S:Sh) (n:Int):Option Sh:=if undoableF S n = true then some ⟨(S.its.filter fun x=>x.m != n).map (backF n),S.live.filter (· != n),S.ch⟩ else none
def stepF (d:Dr) (S:Sh) (x:Sp):Option Sh:=if x.u = 0 then changeF d S x else undoF S x.u
def playF (d:Dr):Sh→List Sp→Nat→Sum Nat Sh
 | S,[],_=>.inr S
 | S,x :: r,i=>match stepF d S x with
  | some S'=>playF d S' r (i + 1)
  | none=>.inl i
end Go.Proofs.YtefnikpoimaiiaaGreat

namespace Go.Proofs.YtefnikpoimaiiaaGreat
open Go.Pal Go.RowKit
set_option maxRecDepth 100000
def idxF (l:List Int) (q:Int) (k:Nat):Int:=match l with
 | []=>-1
 | r :: t=>if q = r then (k:Int) else idxF t q (k + 1)
theorem idxF_has:∀ (l:List Int) (q:Int) (k:Nat),decide (0≤idxF l q k) = decide (q∈l)
 | [],q,k=>rfl
 | r :: t,q,k=>by
  unfold idxF
  by_cases h:q = r
  ·subst h;simp
  ·rw [if_neg h,idxF_has t q (k + 1)]
   simp [h]
theorem idx104:Sound Tryz.prog 72 id (gsca (args2 (slRd intE) intRd fun _ _=>True) fun x v=>v = I (idxF x.1 x.2 0)):=by
 refine comp104.gsca (Tab.nil _) (fun args G s h=>?_) (fun args G x h=>?_)
 ·obtain ⟨v,w,rfl,_⟩:=h;simp
 ·obtain ⟨l,q⟩:=x
  obtain ⟨u,w,rfl,⟨a,n,c,rfl,hl,hn⟩,rfl,_⟩:=h
  dsimp only at hl
  have hlen:=hl.len
  dsimp only
  (conv=>whnf)
  refine LoopP.of { α:=Nat,fr:=fun x=>[(0, .v (.slice a n c)),(1, .v (I q)),(6, .v (.slice a n c)),(7, .v (I n)),(8, .v (I x))],H:=fun _=>[],ok:=fun i _=>i≤l.length∧idxF l q 0 = idxF (l.drop i) q i,m:=fun x=>l.length - x }
   0 (HeadP.of [] ⟨rfl,rfl,rfl,rfl,rfl,trivial⟩ trivial) ⟨Nat.zero_le _,rfl⟩ (fun _=>⟨rfl,rfl⟩) (fun (i:Nat) G' hG hx=>W.mk ?_)
  obtain ⟨hi,hx⟩:=hx
  replace hl:=SlR.grow (G:=G) (G':=G') (fun _ _ h=>h) hl hG
  dsimp only
  (conv=>whnf)
  refine IteP.mk (fun hlt=>W.mk ?_) (fun hge=>W.mk ?_)<;>(conv=>whnf)
  ·have h1:i < l.length:=by omega
   have hc:=hl.el h1
   rw [List.drop_eq_getElem_cons h1,idxF] at hx
   repeat' (first | (refine ob ?_ ?_;(first | trivial | omega | (simp only [inR];omega) | exact ble (by rfl) | exact SlR.some ‹_› (by omega));(conv=>whnf)) | (first | (refine ra ‹_› (by rfl) ?_;(conv=>whnf)) | (refine rb ‹_› (by rfl) ?_;(conv=>whnf)) | (refine rc ‹_› (by rfl) ?_;(conv=>whnf)) | (refine rd ‹_› (by rfl) ?_;(conv=>whnf))))
   refine IteP.mk (fun hq=>W.mk ?_) (fun hq=>W.mk ?_)<;>(conv=>whnf)
   ·refine FinP.mk ?_
    show I (i:Nat) = I (idxF l q 0)
    rw [hx,if_pos hq]
   ·rw [if_neg hq] at hx
    repeat' (refine ob ?_ ?_;(first | trivial | omega | (simp only [inR];omega) | exact ble (by rfl) | exact SlR.some ‹_› (by omega));(conv=>whnf))
    refine RoundP.of (i + 1) (HeadP.of [] ⟨rfl,rfl,rfl,rfl,rfl,trivial⟩ trivial) ⟨h1,hx⟩ (by simp only;omega)
  ·refine FinP.mk ?_
   rw [hx,List.drop_of_length_le (by omega)];rfl
theorem has82:Sound Tryz.prog 41 id (gsca (args2 (slRd intE) intRd fun _ _=>True) fun x v=>v = .bool (decide (x.2∈x.1))):=by
 refine comp82.gsca (Tab.cons 72 _ idx104 body104 (Tab.nil _)) (fun args G s h=>?_) (fun args G x h=>?_)
 ·obtain ⟨v,w,rfl,_⟩:=h;simp
 ·obtain ⟨l,q⟩:=x
  obtain ⟨u,w,rfl,hl,rfl,_⟩:=h
  obtain ⟨a,n,c,rfl,hl1,hn⟩:=id hl
  dsimp only
  (conv=>whnf)
  refine ScaP.g (ok2 (slRd intE) intRd fun _ _=>True) (x:=(l,q)) ⟨_,_,rfl,hl,rfl,trivial⟩ (fun v hv=>W.mk ?_)
  subst hv
  dsimp only
  (conv=>whnf)
  refine IteP.mk (fun h=>W.mk ?_) (fun h=>W.mk ?_)<;>(conv=>whnf)<;>refine FinP.mk ?_<;>refine congrArg Value.bool ?_<;>rw [← idxF_has l q 0]<;>simp [h]
/-! ### A sheet that is published -/
def ShC (G:Hp) (b:Nat) (d:Dr) (S:Sh):Prop:=∃ w k iv lv,CellsAt G b 0 [w,k,iv,lv,I S.ch]∧SlV woE G w d.ws∧SlV intE G k d.ks∧SlV itE G iv S.its∧SlV intE G lv S.live
theorem ShC.grow {G G':Hp} {b:Nat} {d:Dr} {S:Sh} (hg:Grow G G') (h:ShC G b d S):ShC G' b d S:=by
 obtain ⟨w,k,iv,lv,h1,h2,h3,h4,h5⟩:=h
 exact ⟨w,k,iv,lv,h1.grow hg,h2.grow hg,h3.grow hg,h4.grow hg,h5.grow hg⟩
theorem ShC.uniq {G:Hp} {b:Nat} {d d':Dr} {S S':Sh} (h:ShC G b d S) (h':ShC G b d' S'):d = d'∧S = S':=by
 obtain ⟨w,k,iv,lv,h1,h2,h3,h4,h5⟩:=h
 obtain ⟨w',k',iv',lv',h1',h2',h3',h4',h5'⟩:=h'
 have:=h1.eq h1' rfl
 simp only [List.cons.injEq,Value.int.injEq,true_and,and_true] at this
 obtain ⟨rfl,rfl,rfl,rfl,e⟩:=this
 have e1:=h2.uniq h2'
 have e2:=h3.uniq h3'
 have e3:=h4.uniq h4'
 have e4:=h5.uniq h5'
 cases d;cases d';cases S;cases S'
 simp_all
def shRd:Rd (Dr × Sh):=⟨fun G v x=>∃ b,v = ptr b∧ShC G b x.1 x.2,fun {_ _ x y} ⟨b,h,h1⟩ ⟨b',h',h1'⟩=>by
  rw [h] at h';cases h'
  have:=h1.uniq h1'
  exact Prod.ext this.1 this.2,fun hg ⟨b,h,h1⟩=>⟨b,h,h1.grow hg⟩⟩
theorem placesN_succ (l:List It) (n:Nat):placesN l (n + 1) = if (l.getD n default).g = 0 then placesN l n++[n] else placesN l n:=by
 simp only [placesN,List.range_succ,List.filter_append,List.filter_cons,List.filter_nil,decide_eq_true_eq]
 split<;>simp
theorem placesN_pre (l:List It) (n:Nat):∀ k, ∃ r,placesN l (n + k) = placesN l n++r
 | 0=>⟨[],by simp⟩
 | k + 1=>by
  obtain ⟨r,h⟩:=placesN_pre l n k
  rw [← Nat.add_assoc,placesN_succ,h]
  split
  ·exact ⟨r++[n + k],by simp⟩
  ·exact ⟨r,rfl⟩
theorem placesN_le (l:List It) (n:Nat):(placesN l n).length≤n:=Nat.le_trans (List.length_filter_le _ _) (by simp)
theorem placesN_lt {l:List It} {n i:Nat} (h:i∈placesN l n):i < n:=by
 simp only [placesN,List.mem_filter,List.mem_range] at h;exact h.1
def visY (l:List It):List (List Value):=(List.range (placesF l).length).map fun n=>[I (n:Nat),I ((placesF l).getD n 0:Nat)]
theorem visY_len (l:List It):(visY l).length = (placesF l).length:=by simp [visY]
theorem visY_get {l:List It} {n:Nat} (h:n < (placesF l).length):(visY l)[n]? = some [I (n:Nat),I ((placesF l).getD n 0:Nat)]:=by
 simp [visY,h]
def visS (bx:Nat) (d:Dr) (S:Sh):PSpec:=.seq (fun l args G Ys=>args = [.func (.yield l) #[] #[]]∧(∃ b,CellsAt G bx 0 [ptr b]∧ShC G b d S)∧Ys = visY S.its) (fun _ _=>True)
theorem vis72 (bx:Nat) (d:Dr) (S:Sh):Sound Tryz.prog 91 (fun args=>(#[]:Array Value).toList++args++(#[ptr bx]:Array Value).toList) (visS bx d S):=by
 refine comp72.seq (Tab.nil _) (fun l args G Ys h=>?_) (fun l Y k args G Ys h hseg=>?_)
 ·obtain ⟨rfl,_⟩:=h;simp
 ·obtain ⟨rfl,⟨b,hbx,w,kk,iv,lv,hc,_,_,⟨a,n,c,rfl,hl,hn⟩,_⟩,rfl⟩:=h
  have hlen:=hl.len
  rw [visY_len] at hseg ⊢
  (conv=>whnf)
  (first | (refine ra ‹_› (by rfl) ?_;(conv=>whnf)) | (refine rb ‹_› (by rfl) ?_;(conv=>whnf)) | (refine rc ‹_› (by rfl) ?_;(conv=>whnf)) | (refine rd ‹_› (by rfl) ?_;(conv=>whnf)))
  (first | (refine ra ‹_› (by rfl) ?_;(conv=>whnf)) | (refine rb ‹_› (by rfl) ?_;(conv=>whnf)) | (refine rc ‹_› (by rfl) ?_;(conv=>whnf)) | (refine rd ‹_› (by rfl) ?_;(conv=>whnf)))
  refine LoopP.of { α:=Nat,fr:=fun x=>[(0, .v (.func (.yield l) #[] #[])),(3, .v (I ((placesN S.its x).length:Nat))),(9, .v (.slice a n c)),(10, .v (I n)),(11, .v (I x)),(POS, .c (.pos (k + (placesN S.its x).length) false))],H:=fun _=>[],ok:=fun i _=>i≤S.its.length,m:=fun x=>S.its.length - x }
   0 (HeadP.of [] ⟨rfl,rfl,rfl,rfl,rfl,rfl,trivial⟩ trivial) (Nat.zero_le _) (fun _=>⟨rfl,rfl⟩) (fun (i:Nat) G' hG (hi:i≤_)=>W.mk ?_)
  replace hl:=SlR.grow (G:=G) (G':=G') (fun _ _ h=>h) hl hG
  dsimp only
  (conv=>whnf)
  refine IteP.mk (fun hlt=>W.mk ?_) (fun hge=>W.mk ?_)<;>(conv=>whnf)
  ·have h1:i < S.its.length:=by omega
   have hce:=hl.el h1
   have hgd:S.its.getD i default = S.its[i]:=by simp [h1]
   have hsu:=placesN_succ S.its i
   rw [hgd] at hsu
   generalize S.its[i] = x at hce hsu
   have hpl:=placesN_le S.its i
   repeat' (first | (refine ob ?_ ?_;(first | trivial | omega | (simp only [inR];omega) | exact ble (by rfl) | exact SlR.some ‹_› (by omega));(conv=>whnf)) | (first | (refine ra ‹_› (by rfl) ?_;(conv=>whnf)) | (refine rb ‹_› (by rfl) ?_;(conv=>whnf)) | (refine rc ‹_› (by rfl) ?_;(conv=>whnf)) | (refine rd ‹_› (by rfl) ?_;(conv=>whnf))))
   refine IteP.mk (fun hq=>W.mk ?_) (fun hq=>W.mk ?_)<;>(conv=>whnf)
   ·rw [if_pos hq] at hsu
    have hpre:∃ r,placesF S.its = placesN S.its (i + 1)++r:=by
     obtain ⟨r,h⟩:=placesN_pre S.its (i + 1) (S.its.length - (i + 1))
     rw [show i + 1 + (S.its.length - (i + 1)) = S.its.length by omega] at h
     exact ⟨r,h⟩
    obtain ⟨r,hr⟩:=hpre
    rw [hsu] at hr
    have hpn:(placesN S.its i).length < (placesF S.its).length:=by rw [hr];simp
    have hpv:(placesF S.its).getD (placesN S.its i).length 0 = i:=by rw [hr];simp
    refine CallvP.yl rfl (W.mk ?_);(conv=>whnf)
    refine YieldP.mk ?_ (fun G2 hg2=>W.mk ?_) (fun G2 hg2=>W.mk ?_)
    ·rw [seg_get (Ys:=visY S.its) (by rw [visY_len];exact hseg) (by rw [visY_len];exact hpn),visY_get hpn,hpv]
    ·(conv=>whnf)
     repeat' (refine ob ?_ ?_;(first | trivial | omega | (simp only [inR];omega) | exact ble (by rfl) | exact SlR.some ‹_› (by omega));(conv=>whnf))
     refine RoundP.of (i + 1) (HeadP.of [] ⟨rfl, ?_,rfl,rfl,rfl, ?_,trivial⟩ trivial (h5:=?_)) h1 (by simp only;omega)
     ·show SV.v (I ((placesN S.its (i + 1)).length:Nat)) = SV.v (I (((placesN S.its i).length:Int) + 1))
      rw [hsu];simp
     ·show SV.c (.pos (k + (placesN S.its (i + 1)).length) false) = SV.c (.pos (k + (placesN S.its i).length + 1) false)
      rw [hsu];simp [Nat.add_assoc]
     ·show SV.c (.pos (k + (placesN S.its i).length + 1) false) = SV.c (.pos (k + (placesN S.its (i + 1)).length) false)
      rw [hsu];simp [Nat.add_assoc]
    ·(conv=>whnf)
     refine FinP.mk ⟨trivial,fun h=>by cases h⟩
   ·rw [if_neg hq] at hsu
    repeat' (refine ob ?_ ?_;(first | trivial | omega | (simp only [inR];omega) | exact ble (by rfl) | exact SlR.some ‹_› (by omega));(conv=>whnf))
    refine RoundP.of (i + 1) (HeadP.of [] ⟨rfl, ?_,rfl,rfl,rfl, ?_,trivial⟩ trivial (h5:=?_)) h1 (by simp only;omega)
    ·show SV.v (I ((placesN S.its (i + 1)).length:Nat)) = SV.v (I (((placesN S.its i).length:Int)))
     rw [hsu]
    ·show SV.c (.pos (k + (placesN S.its (i + 1)).length) false) = SV.c (.pos (k + (placesN S.its i).length) false)
     rw [hsu]
    ·show SV.c (.pos (k + (placesN S.its i).length) false) = SV.c (.pos (k + (placesN S.its (i + 1)).length) false)
     rw [hsu]
  ·have:i = S.its.length:=by omega
   subst this
   exact FinP.mk ⟨trivial,fun _=>rfl⟩
theorem vis44:Sound Tryz.prog 59 id (grel (args1 shRd fun _=>True) fun x v G=>∃ bx,v = .func (.func 91) #[] #[ptr bx]∧∃ b,CellsAt G bx 0 [ptr b]∧ShC G b x.1 x.2):=by
 refine comp44.grel (Tab.nil _) (ok1 _ _) (fun args G s h=>?_) (fun x v G G' hg ⟨bx,h1,b,h2,h3⟩=>⟨bx,h1,b,h2.grow hg,h3.grow hg⟩) (fun args G x h=>?_)
 ·obtain ⟨v,rfl,_⟩:=h;simp
 ·obtain ⟨v,rfl,⟨b,rfl,hs⟩,_⟩:=h
  (conv=>whnf)
  refine NameP.mk (fun bx=>W.mk ?_)
  (conv=>whnf)
  refine PubAnyP.mk ⟨[0], ?_⟩
  (conv=>whnf)
  intro G' hg _ hc
  refine W.mk ?_
  (conv=>whnf)
  exact FinP.mk ⟨bx,rfl,b,hc,hs.grow hg⟩
def natE:El Nat:=⟨1,fun x=>[I (x:Nat)],fun {x y} h=>by simp at h;omega,fun _=>rfl,fun _ v hv=>by simp at hv;rw [hv];rfl⟩
theorem places88:Sound Tryz.prog 116 id (gown 3 1 (args1 shRd fun x=>x.2.its.length≤100000) fun x n vs=>Row natE (placesF x.2.its) n vs):=by
 refine comp88.gown (Tab.cons 59 _ vis44 body44 (Tab.nil _)) (ok1 _ _) (fun args G s h=>?_) (fun args G x h=>?_)
 ·obtain ⟨v,rfl,_⟩:=h;simp
 ·obtain ⟨d,S⟩:=x
  obtain ⟨u,rfl,⟨b,rfl,hs⟩,hn⟩:=h
  dsimp only at hs hn
  (conv=>whnf)
  refine RelP.g (ok1 shRd fun _=>True) (x:=(d,S)) ⟨_,rfl,⟨b,rfl,hs⟩,trivial⟩ (Grow.refl _) (fun v G1 hg1 hq=>W.mk ?_)
  obtain ⟨bx,rfl,b',hb',hs'⟩:=hq
  dsimp only at hs'
  (conv=>whnf)
  have hple:(placesF S.its).length≤S.its.length:=placesN_le _ _
  refine RangeP.of (visY S.its) { α:=Nat × Nat × List Value,fr:=[(2, .c (.ptr 0 0))],k:=fun x=>x.1,H:=fun x=>[(0, .cells .anon [.row 1 x.2.1] 30),(1, .row none x.2.1 x.2.2 3 1)],ok:=fun x _=>x.1≤(placesF S.its).length∧Row natE ((placesF S.its).take x.1) x.2.1 x.2.2 }
   (0,0,[]) (SoundFn.of body72 (vis72 bx d S)) (fun l=>⟨rfl,⟨b',hb',hs'⟩,rfl⟩) (fun y hy=>by obtain ⟨p,_,rfl⟩:=List.mem_map.1 hy;rfl) rfl (HeadP.of [(1,none)] ⟨rfl,trivial⟩ ⟨rfl,rfl,trivial⟩) ⟨Nat.zero_le _,Row.nil⟩ ⟨rfl,fun _=>rfl⟩ (fun _ _ _ _ h=>h)
   (fun x y G2 hg2 hx hy=>W.mk ?_) (fun x G2 hg2 hx hk=>W.mk ?_)
  ·obtain ⟨i,m,vs⟩:=x
   obtain ⟨hi,hr⟩:=hx
   simp only at hi hr hy
   have hlt:i < (placesF S.its).length:=by
    have:=(List.getElem?_eq_some_iff.1 hy).1
    rwa [visY_len] at this
   rw [visY_get hlt] at hy
   cases hy
   have hgd:(placesF S.its).getD i 0 = (placesF S.its)[i]:=by simp [hlt]
   have hm:m = i:=by rw [hr.n,List.length_take];omega
   have hr2:=hr.snoc (placesF S.its)[i] (us:=[I (((placesF S.its).getD i 0:Nat):Int)]) (by rw [hgd];rfl)
   have htk:(placesF S.its).take i++[(placesF S.its)[i]] = (placesF S.its).take (i + 1):=by rw [List.take_add_one,List.getElem?_eq_getElem hlt];rfl
   rw [htk] at hr2
   dsimp only
   (conv=>whnf)
   repeat' (refine ob ?_ ?_;(first | trivial | omega | (simp only [inR];omega) | exact ble (by rfl) | exact SlR.some ‹_› (by omega));(conv=>whnf))
   refine RoundR.mk ⟨(i + 1,m + 1,_),⟨[(1,some 7)],⟨rfl,rfl,trivial⟩,rfl,rfl⟩,⟨hlt,hr2⟩,rfl⟩
  ·obtain ⟨i,m,vs⟩:=x
   obtain ⟨hi,hr⟩:=hx
   simp only at hi hr hk
   rw [visY_len] at hk
   subst hk
   rw [List.take_length] at hr
   (conv=>whnf)
   exact OwnFin.mk ⟨rfl,rfl,rfl,hr⟩
end Go.Proofs.YtefnikpoimaiiaaGreat

namespace Go.Proofs.YtefnikpoimaiiaaGreat
open Go.Pal Go.RowKit
set_option maxRecDepth 100000
def KeepT (p p':Hp):Prop:=∀ b cs t x,t≠167→t≠164→t≠3→p b = some (.cells cs t x)→p' b = some (.cells cs t x)
theorem KeepT.refl {p:Hp}:KeepT p p:=fun _ _ _ _ _ _ _ h=>h
theorem KeepT.trans {p q r:Hp} (h:KeepT p q) (h':KeepT q r):KeepT p r:=fun b cs t x a1 a2 a3 e=>h' b cs t x a1 a2 a3 (h b cs t x a1 a2 a3 e)
theorem KeepT.of {p p':Hp} (h:∀ b o,p b = some o→p' b = some o):KeepT p p':=fun b cs t x _ _ _ e=>h b _ e
theorem KeepT.set {p:Hp} {b0:Nat} {o0:Obj} {o:Option Obj} (h:p b0 = some o0) (ht:∀ cs t x,o0 = .cells cs t x→t = 167∨t = 164∨t = 3):KeepT p (upd p b0 o):=fun b cs t x a1 a2 a3 e=>by
 have:b≠b0:=fun hb=>by
  subst hb
  rw [h] at e;cases e
  rcases ht _ _ _ rfl with h1 | h1 | h1
  ·exact a1 h1
  ·exact a2 h1
  ·exact a3 h1
 rw [upd_other _ _ this];exact e
theorem KeepT.new {p:Hp} {b0:Nat} {o:Option Obj} (h:p b0 = none):KeepT p (upd p b0 o):=fun b cs t x _ _ _ e=>by
 rw [upd_other _ _ (fun hb=>by rw [hb,h] at e;cases e)];exact e
def ShV (p G:Hp) (b:Nat) (d:Dr) (S:Sh) (w k iv lv:Value):Prop:=p b = some (.cells #[w,k,iv,lv,I S.ch] 167 (0,0))∧SlV woE G w d.ws∧SlV intE G k d.ks∧RowH itE 164 p iv S.its∧RowH intE 3 p lv S.live
def ShH (p G:Hp) (b:Nat) (d:Dr) (S:Sh):Prop:=∃ w k iv lv,ShV p G b d S w k iv lv
theorem ShH.grow {p G G':Hp} {b:Nat} {d:Dr} {S:Sh} (hg:Grow G G') (h:ShH p G b d S):ShH p G' b d S:=by
 obtain ⟨w,k,iv,lv,h1,h2,h3,h4,h5⟩:=h
 exact ⟨w,k,iv,lv,h1,h2.grow hg,h3.grow hg,h4,h5⟩
def Sh.small (S:Sh):Prop:=S.its.length≤10000∧S.live.length≤10000∧0≤S.ch∧S.ch≤10000
theorem cellsAt_of {G:Hp} {b:Nat} {cs:List Value} {t:TypeId} {x:Nat × Nat} (h:G b = some (.cells cs.toArray t x)):CellsAt G b 0 cs:=fun j v hj=>by
 simp only [rd1,h,Nat.zero_add]
 simpa using hj
theorem ShH.pub {p G G1:Hp} {b:Nat} {d:Dr} {S:Sh} (h:ShH p G b d S) (hg:Grow G G1) (hp:∀ b o,p b = some o→G1 b = some o) (hs:S.small):ShC G1 b d S:=by
 obtain ⟨w,k,iv,lv,h1,h2,h3,h4,h5⟩:=h
 exact ⟨w,k,iv,lv,cellsAt_of (hp _ _ h1),h2.grow hg,h3.grow hg,h4.slV hp (by have:=hs.1;omega),h5.slV hp (by have:=hs.2.1;omega)⟩
theorem ScaP.gh {α:Type} {R:GRel α} (ok:GOk R) {q:α→Value→Prop} {args:List Value} {p G:Hp} {A:Value→Prop} {x:α} (hx:R args G x) (h:∀ v,q x v→W (A v)):ScaP (∀ G1,Over p G G1→∃ x,R args G1 x) (fun v=>∃ G1,Over p G G1∧∃ x,R args G1 x∧q x v) A :=
 ⟨fun G1 ho=>⟨x,ok.grow _ _ _ _ ho.1 hx⟩,fun v ⟨G1,ho,y,hy,hq⟩=>h v ((ok.uniq _ _ _ _ hy (ok.grow _ _ _ _ ho.1 hx)) ▸ hq)⟩
theorem placesH (b:Nat) (d:Dr) (S:Sh) (hs:S.small):Sound Tryz.prog 116 id (.hp (fun args p G=>args = [ptr b]∧ShH p G b d S) fun _ p v p' G=>p' = p∧SlV natE G v (placesF S.its)):=by
 refine Sound.hpImp (Sound.hpOwnP (Sound.ownAt places88 (ok1 _ _) (d,S))) (fun args p G _ h G1 _ ho=>?_) (fun args p v p' G h=>?_) (fun args p v p' G G' hg h=>⟨h.1,h.2.grow hg⟩)
 ·obtain ⟨rfl,h⟩:=h
  exact ⟨_,rfl,⟨b,rfl,h.pub ho.1 ho.2.1 hs⟩,by have:=hs.1;show S.its.length≤_;omega⟩
 ·obtain ⟨h1,a,n,c,vs,G1,rfl,h2,_,h3⟩:=h
  have:=placesN_le S.its S.its.length
  exact ⟨h1,h3.pub h2 (by rw [h3.n];exact Nat.le_trans this (by have:=hs.1;omega))⟩
theorem prot91 (b:Nat) (d:Dr) (S:Sh) (x:It):Sound Tryz.prog 119 id (.hp (fun args p G=>args = [ptr b, .agg (itE.f x).toArray]∧ShH p G b d S) fun _ p v p' _=>v = .bool (protF d x)∧p' = p):=by
 refine comp91.hp (Tab.cons 41 _ has82 body82 (Tab.nil _)) (fun args p G h=>?_) (fun args p v p' G G' hg h=>h) (fun args p G h=>?_)
 ·obtain ⟨rfl,_⟩:=h;simp
 ·obtain ⟨rfl,w,k,iv,lv,h1,h2,h3,h4,h5⟩:=h
  (conv=>whnf)
  refine RdhP.h (ds:=[w,k,iv,lv,I S.ch]) h1 rfl (W.mk ?_)
  obtain ⟨a,n,c,rfl,h3',hn⟩:=id h3
  (conv=>whnf)
  refine ScaP.gh (ok2 (slRd intE) intRd fun _ _=>True) (x:=(d.ks,x.o)) ⟨_,_,rfl,h3,rfl,trivial⟩ (fun v hv=>W.mk ?_)
  subst hv
  dsimp only
  (conv=>whnf)
  refine ForkP.mk (fun he=>W.mk ?_) (fun he=>W.mk ?_)<;>(conv=>whnf)<;>refine NmP.mk ⟨[],W.mk ?_⟩<;>(conv=>whnf)<;>refine FinHp.of rfl ⟨?_,rfl⟩<;>exact congrArg Value.bool he.symm
theorem ask90:Sound Tryz.prog 117 id (.hp (fun args _ _=>args = [.bool true]) fun _ p v p' _=>v = .tuple #[]∧p' = p):=by
 have h:Sound Tryz.prog 117 id (.sca (fun args _=>args = [.bool true]) fun _ _ v=>v = .tuple #[]):=by
  refine comp90.sca (Tab.nil _) (fun args G h=>?_) (fun args G h=>?_)
  ·subst h;simp
  ·subst h
   (conv=>whnf)
   refine ForkP.mk (fun _=>W.mk ?_) (fun h=>by cases h)
   (conv=>whnf)
   exact FinP.mk rfl
 refine Sound.hpImp (Sound.hpSca h) (fun args p G _ h G1 _ _=>h) (fun args p v p' G ⟨h1,_,_,_,h2⟩=>⟨h2,h1⟩) (fun args p v p' G G' hg h=>h)
theorem refuse90:PanF Tryz.prog 117 203 (fun args _ _=>args = [.bool false]) (fun _ p q=>q = p):=by
 intro args p G W _ hp h
 subst h
 have:Calls Tryz.prog 117 #[.bool false] W fun e W'=>e = .panicked [{ v:=.iface 203 (.agg #[]),recovered:=false }]∧W' = W:=by
  go_enter Tryz.func117,Tryz.ntmps117
  go_wp2
  exact ⟨rfl,rfl,rfl⟩
 refine this.mono fun e W' ⟨h1,h2⟩=>?_
 subst h1;subst h2
 exact ⟨_,p,rfl,rfl,rfl,fun b o e=>⟨(hp b o e).1, .inl ⟨o,e⟩⟩,Beneath.refl ⟨W',_,_⟩⟩
end Go.Proofs.YtefnikpoimaiiaaGreat

namespace Go.Proofs.YtefnikpoimaiiaaGreat
open Go.Pal Go.RowKit
set_option maxRecDepth 100000
section
variable {α:Type} {E:El α} {t:TypeId} {p:Hp}
theorem take_flat {l:List α} {rest:List Value}:(flat E l++rest).take (l.length * E.k) = flat E l:=by
 rw [List.take_append_of_le_length (by rw [flat_len];exact Nat.le_refl _),List.take_of_length_le (by rw [flat_len];exact Nat.le_refl _)]
theorem RowH.appIn {b c:Nat} {l us:List α} {rest:List Value} (hr:rest.length = (c - l.length) * E.k) (hc:l.length + us.length≤c) (hm:c≤maxLen) :
  RowH E t (upd p b (some (.cells ((flat E l++rest).take (l.length * E.k)++flat E us++(flat E l++rest).drop ((l.length + us.length) * E.k)).toArray t (0,0)))) (.slice (some ⟨b,0,none⟩) (l.length + us.length) c) (l++us):=by
 refine .inr ⟨b,c,rest.drop (us.length * E.k),by rw [List.length_append], ?_, ?_,by rw [List.length_append];exact hc,hm⟩
 ·rw [upd_same,take_flat,flat_app]
  simp only [List.append_assoc]
  congr 5
  rw [List.drop_append,List.drop_of_length_le (by rw [flat_len,Nat.add_mul];omega),List.nil_append,flat_len,Nat.add_mul,Nat.add_sub_cancel_left]
 ·rw [List.length_drop,hr,List.length_append, ← Nat.sub_mul]
  congr 1
  omega
theorem RowH.appNew {b c:Nat} {l us:List α} {vs rest':List Value} (hv:vs = flat E l) (hr:rest'.length = (c - (l.length + us.length)) * E.k) (hc:l.length + us.length≤c) (hm:c≤maxLen) :
  RowH E t (upd p b (some (.cells (vs++flat E us++rest').toArray t (0,0)))) (.slice (some ⟨b,0,none⟩) (l.length + us.length) c) (l++us):=by
 subst hv
 refine .inr ⟨b,c,rest',by rw [List.length_append],by rw [upd_same,flat_app],by rw [hr,List.length_append],by rw [List.length_append];exact hc,hm⟩
theorem RowH.mono {v:Value} {l:List α} {q:Hp} (h:RowH E t p v l) (hk:∀ b o,blkOf v = some b→p b = some o→q b = some o):RowH E t q v l:=by
 rcases h with ⟨h1,h2⟩ | ⟨b,c,rest,rfl,hb,h⟩
 ·exact .inl ⟨h1,h2⟩
 ·exact .inr ⟨b,c,rest,rfl,hk _ _ rfl hb,h⟩
end
theorem beginIts_succ (ws:List Wo) (n:Nat):beginIts ws (n + 1) = beginIts ws n++[⟨(ws.getD n default).t,(n:Int),0,0⟩]:=by
 simp [beginIts,List.range_succ]
theorem beginIts_len (ws:List Wo) (n:Nat):(beginIts ws n).length = n:=by simp [beginIts]
theorem begin61 (d:Dr) (hd:d.ws.length≤1000):Sound Tryz.prog 86 id (.hp (fun args p G=>∃ w k,args = [.agg #[w,k]]∧SlV woE G w d.ws∧SlV intE G k d.ks) fun _ p v p' G=>KeepT p p'∧∃ b,v = ptr b∧ShH p' G b d (beginS d)):=by
 refine comp61.hp (Tab.nil _) (fun args p G h=>?_) (fun args p v p' G G' hg ⟨h1,b,h2,h3⟩=>⟨h1,b,h2,h3.grow hg⟩) (fun args p G h=>?_)
 ·obtain ⟨w,k,rfl,_⟩:=h;simp
 ·obtain ⟨w,k,rfl,hw,hk⟩:=h
  obtain ⟨a,n,c,rfl,hl,hn⟩:=id hw
  obtain ⟨ka,kn,kc,rfl,_,_⟩:=id hk
  have hlen:=hl.len
  (conv=>whnf)
  refine LoopP.of { α:=Nat × Hp × Value,fr:=fun x=>[(3, .c (.ptr 1004 0)),(10, .v (.slice a n c)),(11, .v (I n)),(12, .v (I x.1))],H:=fun x=>[(0, .heap x.2.1),(1004, .cells .anon [.val (.slice a n c), .val (.slice ka kn kc), .val x.2.2, .val (.slice none 0 0), .val (I 0)] 167)],ok:=fun x _=>x.1≤d.ws.length∧KeepT p x.2.1∧RowH itE 164 x.2.1 x.2.2 (beginIts d.ws x.1),m:=fun x=>d.ws.length - x.1 }
   (0,p, .slice none 0 0) (HeadP.of [] ⟨rfl,rfl,rfl,rfl,trivial⟩ ⟨rfl,rfl,trivial⟩) ⟨Nat.zero_le _,KeepT.refl,RowH.nil⟩ (fun _=>⟨rfl,rfl⟩) (fun x G1 hg1 hx=>W.mk ?_)
  obtain ⟨i,q,iv⟩:=x
  obtain ⟨hi,hkt,hrow⟩:=hx
  dsimp only at hi hkt hrow
  dsimp only
  (conv=>whnf)
  refine IteP.mk (fun hlt=>W.mk ?_) (fun hge=>W.mk ?_)<;>(conv=>whnf)
  ·have h1:i < d.ws.length:=by omega
   have hce:=(SlR.grow (G:=G) (G':=G1) (fun _ _ h=>h) hl hg1).el h1
   have hgd:d.ws.getD i default = d.ws[i]:=by simp [h1]
   have hbs:=beginIts_succ d.ws i
   have hbl:=beginIts_len d.ws i
   rw [hgd] at hbs
   generalize d.ws[i] = x at hce hbs
   repeat' (first | (refine ob ?_ ?_;(first | trivial | omega | (simp only [inR];omega) | exact ble (by rfl) | exact SlR.some ‹_› (by omega));(conv=>whnf)))
   refine RdhP.g hce rfl (W.mk ?_)
   (conv=>whnf)
   repeat' (first | (refine ob ?_ ?_;(first | trivial | omega | (simp only [inR];omega) | exact ble (by rfl) | exact SlR.some ‹_› (by omega));(conv=>whnf)))
   have hnext:∀ (q':Hp) (iv':Value),KeepT q q'→RowH itE 164 q' iv' (beginIts d.ws i++[⟨x.t,(i:Int),0,0⟩])→i + 1≤d.ws.length∧KeepT p q'∧RowH itE 164 q' iv' (beginIts d.ws (i + 1)):=fun q' iv' h1 h2=>⟨by omega,hkt.trans h1,by rw [hbs];exact h2⟩
   rcases hrow with ⟨rfl,hl0⟩ | ⟨b,c',rest,rfl,hb,hr,hc,hm⟩
   ·(conv=>whnf)
    refine OblP.mk rfl (W.mk ?_)
    (conv=>whnf)
    refine OblP.mk ⟨by omega,by omega⟩ (W.mk ?_)
    (conv=>whnf)
    refine AppnP.mk (fun b' cap rest' hb1 hb2 hb3 hb4=>W.mk ?_)
    (conv=>whnf)
    repeat' (refine ob ?_ ?_;(first | trivial | omega | (simp only [inR];omega) | exact ble (by rfl) | exact SlR.some ‹_› (by omega));(conv=>whnf))
    refine RoundP.of (i + 1,upd q b' (some (.cells (itE.f ⟨x.t,(i:Int),0,0⟩++rest').toArray 164 (0,0))), .slice (some ⟨b',0,none⟩) 1 cap) (HeadP.of [] ⟨rfl,rfl,rfl,rfl,trivial⟩ ⟨rfl,rfl,trivial⟩) (hnext _ _ (KeepT.new hb1) (by rw [hl0];exact RowH.appNew (E:=itE) (l:=[]) (us:=[⟨x.t,(i:Int),0,0⟩]) (vs:=[]) rfl hb4 hb2 hb3)) (by simp only;omega)
   ·have hin:=fun hc2=>RowH.appIn (t:=164) (p:=q) (b:=b) (us:=[⟨x.t,(i:Int),0,0⟩]) hr hc2 hm
    have hnw:=fun (b' cap:Nat) (rest':List Value)=>RowH.appNew (t:=164) (p:=q) (b:=b') (c:=cap) (l:=beginIts d.ws i) (us:=[⟨x.t,(i:Int),0,0⟩]) (vs:=(flat itE (beginIts d.ws i)++rest).take ((beginIts d.ws i).length * itE.k)) (rest':=rest') take_flat
    have hone:∀ u∈(flat itE (beginIts d.ws i)++rest).take ((beginIts d.ws i).length * itE.k),u.oneCell' = true:=by rw [take_flat];exact flat_one _ _
    have hlen2:(flat itE (beginIts d.ws i)++rest).length = c' * 4:=by rw [List.length_append,flat_len,hr,show itE.k = 4 from rfl];omega
    rw [hbl] at hc hin hnw hone
    rw [hbl]
    (conv=>whnf)
    refine HpkP.mk ⟨_,164,hb,W.mk ?_⟩
    (conv=>whnf)
    refine OblP.mk ⟨rfl,rfl,hlen2,hc,hm,hone⟩ (W.mk ?_)
    (conv=>whnf)
    refine OblP.mk rfl (W.mk ?_)
    (conv=>whnf)
    refine OblP.mk ⟨by omega,by omega⟩ (W.mk ?_)
    (conv=>whnf)
    refine IteP.mk (fun hcap=>W.mk ?_) (fun hcap=>W.mk ?_)<;>(conv=>whnf)
    ·repeat' (refine ob ?_ ?_;(first | trivial | omega | (simp only [inR];omega) | exact ble (by rfl) | exact SlR.some ‹_› (by omega));(conv=>whnf))
     have hok:=hnext _ _ (KeepT.set hb (fun _ _ _ e=>by cases e;exact .inr (.inl rfl))) (hin (by simp only [List.length_singleton];omega))
     refine RoundP.of (i + 1,_,_) ?_ hok (by simp only;omega)
     exact HeadP.of [] ⟨rfl,rfl,rfl,rfl,trivial⟩ ⟨rfl,rfl,trivial⟩
    ·refine AppnP.mk (fun b' cap rest' hb1 hb2 hb3 hb4=>W.mk ?_)
     (conv=>whnf)
     repeat' (refine ob ?_ ?_;(first | trivial | omega | (simp only [inR];omega) | exact ble (by rfl) | exact SlR.some ‹_› (by omega));(conv=>whnf))
     have hok:=hnext _ _ (KeepT.new hb1) (hnw b' cap rest' hb4 hb2 hb3)
     refine RoundP.of (i + 1,_,_) ?_ hok (by simp only;omega)
     exact HeadP.of [] ⟨rfl,rfl,rfl,rfl,trivial⟩ ⟨rfl,rfl,trivial⟩
  ·have hin:i = d.ws.length:=by omega
   subst hin
   (conv=>whnf)
   refine NmP.mk ⟨[1004],fun b hb=>?_⟩
   have hb:q b = none:=hb
   refine W.mk ?_
   (conv=>whnf)
   obtain ⟨q',hq'⟩:∃ q',q' = upd q b (some (.cells #[.slice a n c, .slice ka kn kc,iv, .slice none 0 0,I 0] 167 (0,0))):=⟨_,rfl⟩
   have hat:q' b = some (.cells #[.slice a n c, .slice ka kn kc,iv, .slice none 0 0,I 0] 167 (0,0)):=by rw [hq',upd_same]
   have hk2:∀ y o,q y = some o→q' y = some o:=fun y o e=>by rw [hq',upd_other _ _ (fun h=>by rw [h,hb] at e;cases e)];exact e
   refine FinHp.mk ⟨q',fun y o e=>?_,⟨hkt.trans (KeepT.of hk2),b,rfl,_,_,iv,_,hat,hw.grow hg1,hk.grow hg1,hrow.mono fun y o _ e=>hk2 y o e,RowH.nil⟩⟩
   by_cases hy:y = b
   ·subst hy
    rw [hat] at e;cases e
    exact .inr (.inl ⟨1004,_,167,_,rfl,rfl,rfl⟩)
   ·rw [hq',upd_other _ _ hy] at e
    exact .inl ⟨q,rfl,e⟩
end Go.Proofs.YtefnikpoimaiiaaGreat

namespace Go.Proofs.YtefnikpoimaiiaaGreat
open Go.Pal Go.RowKit
set_option maxRecDepth 100000
def delF {α:Type} (bs:Nat→Bool):Nat→List α→List α
 | _,[]=>[]
 | i,x :: r=>cond (bs i) (delF bs (i + 1) r) (x :: delF bs (i + 1) r)
theorem delF_app {α:Type} (bs:Nat→Bool):∀ (a b:List α) (i:Nat),delF bs i (a++b) = delF bs i a++delF bs (i + a.length) b
 | [],b,i=>by simp [delF]
 | x :: r,b,i=>by
  simp only [List.cons_append,delF,List.length_cons]
  rw [delF_app bs r b (i + 1),show i + 1 + r.length = i + (r.length + 1) by omega]
  cases bs i<;>rfl
theorem delF_take {α:Type} (bs:Nat→Bool) (l:List α) {j:Nat} (h:j < l.length):delF bs 0 (l.take (j + 1)) = cond (bs j) (delF bs 0 (l.take j)) (delF bs 0 (l.take j)++[l[j]]):=by
 rw [List.take_add_one,List.getElem?_eq_getElem h,delF_app,Nat.zero_add,List.length_take,Nat.min_eq_left (Nat.le_of_lt h)]
 cases hb:bs j<;>simp [delF,hb]
theorem delF_none {α:Type} (bs:Nat→Bool):∀ (l:List α) (i:Nat),(∀ j,i≤j→j < i + l.length→bs j = false)→delF bs i l = l
 | [],_,_=>rfl
 | x :: r,i,h=>by
  rw [delF,h i (Nat.le_refl _) (by simp),delF_none bs r (i + 1) (fun j h1 h2=>h j (by omega) (by simp only [List.length_cons];omega))];rfl
theorem delF_filter {α:Type} (b:α→Bool) (bs:Nat→Bool) (d:α):∀ (l:List α) (i:Nat),(∀ j,j < l.length→bs (i + j) = b (l.getD j d))→delF bs i l = l.filter fun x=>!b x
 | [],_,_=>rfl
 | x :: r,i,h=>by
  have h0:=h 0 (by simp)
  simp only [List.getD_cons_zero,Nat.add_zero] at h0
  rw [delF,h0,List.filter_cons,delF_filter b bs d r (i + 1) (fun j hj=>by have:=h (j + 1) (by simp only [List.length_cons];omega);rw [show i + 1 + j = i + (j + 1) by omega,this];simp)]
  cases b x<;>rfl
theorem cut_lt {b o l m k:Nat} (h:l < m):cutA (some ⟨b,o,none⟩) l m k = some ⟨b,o + l * k,none⟩:=by
 unfold cutA
 rw [if_neg (by omega)]
 simp only [Option.map_some,Addr.add]
 split
 ·rename_i h0;rw [h0,Nat.add_zero]
 ·rfl
theorem zero_flat {α:Type} (E:El α) (z:α) {zs:List Value} (hz:zs = E.f z):∀ n,(Builtin.zeroCells zs.toArray n).toList = flat E (List.replicate n z):=by
 subst hz
 have hk:=E.len z
 intro n
 have e:(Builtin.zeroCells (E.f z).toArray n).toList = (List.range (n * E.k)).map fun i=>(E.f z)[i % E.k]!:=by
  simp [Builtin.zeroCells,hk]
 rw [e]
 induction n with
 | zero=>simp [flat]
 | succ n ih =>
  have e2:(List.range E.k).map (fun j=>(E.f z)[(n * E.k + j) % E.k]!) = E.f z:=by
   apply List.ext_getElem (by simp [hk])
   intro i h1 h2
   have hi:i < E.k:=by simpa using h1
   simp only [List.getElem_map,List.getElem_range]
   rw [show (n * E.k + i) % E.k = i by rw [Nat.mul_comm,Nat.mul_add_mod];exact Nat.mod_eq_of_lt hi]
   simp [h2]
  rw [Nat.add_mul,Nat.one_mul,List.range_add,List.map_append,ih (by simp [Builtin.zeroCells,hk]),List.map_map]
  rw [show ((fun i=>(E.f z)[i % E.k]!) ∘ fun x=>n * E.k + x) = fun j=>(E.f z)[(n * E.k + j) % E.k]! from rfl,e2,List.replicate_succ',flat_app]
  simp [flat]
structure Teller (P:Program) {α:Type} (E:El α) (t:TypeId) (g:Value) (va:α→Value) (l:List α) (b:Nat) (J:Nat→Hp→Hp→Prop) (bs:Nat→Bool):Prop where
 call:∀ i (h:i < l.length),SoundFn P g (.hp (fun args p G=>args = [va l[i]]∧J i p G) fun _ p v p' G=>v = .bool (bs i)∧J (i + 1) p' G∧Keep p p')
 up:∀ i p p' G,(∀ k o,p k = some o→p' k = some o)→J i p G→J i p' G
 mono:∀ i p G G',Grow G G'→J i p G→J i p G'
 wr:∀ i p G cur cur0 rest,J i p G→p b = some (.cells (flat E cur0++rest).toArray t (0,0))→cur0.length = l.length→cur.length = l.length→cur.drop i = l.drop i→J i (upd p b (some (.cells (flat E cur++rest).toArray t (0,0)))) G
theorem Teller.judge {P:Program} {α:Type} {E:El α} {t:TypeId} {g:Value} {va:α→Value} {l:List α} {b:Nat} {J:Nat→Hp→Hp→Prop} {bs:Nat→Bool} (h:Teller P E t g va l b J bs):Judge P g va l J (fun _=>False) bs false :=
 ⟨fun i hi _=>h.call i hi,h.up,h.mono,fun _ _ _ _ _ hf=>hf.elim⟩
def delS {α:Type} (E:El α) (t:TypeId) (l:List α) (v0 g:Value) (b:Nat) (J:Nat→Hp→Hp→Prop) (bs:Nat→Bool):PSpec :=
 .hp (fun args p G=>args = [v0,g]∧RowH E t p v0 l∧(∀ k,blkOf v0 = some k→k = b)∧J 0 p G) fun _ p v p' G=>RowH E t p' v (delF bs 0 l)∧(∀ k,blkOf v = some k→blkOf v0 = some k)∧J l.length p' G∧KeepHp (fun k=>blkOf v0 = some k) p p'
theorem del55 {l:List Int} (hl9:l.length≤140737488355328) (v0:Value) {gf:FuncId} {fs cp:Array Value} {b:Nat} {J:Nat→Hp→Hp→Prop} {bs:Nat→Bool} (hT:Teller Tryz.prog intE 3 (.func (.func gf) fs cp) (fun n=>I n) l b J bs):Sound Tryz.prog 124 id (delS intE 3 l v0 (.func (.func gf) fs cp) b J bs):=by
 refine comp55.hp (Tab.nil _) (fun args p G h=>?_) (fun args p v p' G G' hg h=>⟨h.1,h.2.1,hT.mono _ _ _ _ hg h.2.2.1,h.2.2.2⟩) (fun args p G h=>?_)
 ·obtain ⟨rfl,_⟩:=h;simp
 ·obtain ⟨rfl,hrow,hbl,hj⟩:=h
  obtain ⟨va,vn,c,rfl⟩:∃ a n c,v0 = .slice a n c:=by rcases hrow with ⟨rfl,_⟩ | ⟨b',c',rest,rfl,_⟩<;>exact ⟨_,_,_,rfl⟩
  (conv=>whnf)
  refine CallH.mk _ (idx81 hT.judge) body81 (W.mk ?_)
  (conv=>whnf)
  refine HpcP.mk ⟨_,rfl, .inr ⟨3,hrow,fun _ _ h=>h,hl9⟩,hj⟩ (fun v p1 G1 hg1 hq=>W.mk ?_)
  obtain ⟨hq,hk⟩:=hq
  have hk1:∀ k o,p k = some o→p1 k = some o:=fun k o e=>hk k o id e
  rcases hq with ⟨rfl,hf,hj2⟩ | ⟨i,hi,rfl,hbi,hf,hj2⟩
  ·dsimp only
   (conv=>whnf)
   refine IteP.mk (fun _=>W.mk ?_) (fun h=>by exfalso;omega)
   (conv=>whnf)
   refine NmP.mk ⟨[],W.mk ?_⟩
   (conv=>whnf)
   refine FinHp.of rfl ⟨?_,fun k h=>h,hj2,fun k o _ e=>hk1 k o e⟩
   rw [delF_none bs l 0 (fun j _ h=>hf j (by omega))]
   exact hrow.mono fun k o _ e=>hk1 k o e
  ·rcases hrow with ⟨_,rfl⟩ | ⟨b',c',rest,e,hb,hr,hc,hm⟩
   ·simp at hi
   ·cases e
    have:=hbl b' rfl
    subst this
    dsimp only
    (conv=>whnf)
    refine IteP.mk (fun h=>by exfalso;omega) (fun _=>W.mk ?_)
    (conv=>whnf)
    repeat' (refine ob ?_ ?_;(first | trivial | omega | (simp only [inR];omega) | exact ble (by rfl) | exact SlR.some ‹_› (by omega));(conv=>whnf))
    have hd0:delF bs 0 (l.take (i + 1)) = l.take i:=by
     rw [delF_take bs l hi,hbi,cond_true,delF_none bs (l.take i) 0 (fun j _ h=>hf j (by simp at h;omega))]
    refine LoopP.of { α:=Nat × Nat × Hp × List Int,fr:=fun x=>[(0, .v (.slice (some ⟨b',0,none⟩) l.length c)),(1, .v (.func (.func gf) fs cp)),(5, .v (I x.1)),(6, .v (I x.2.1))],H:=fun x=>[(0, .heap x.2.2.1)],ok:=fun x G=>x.2.1≤l.length∧x.1 < x.2.1∧x.2.2.2.length = l.length∧x.2.2.2.take x.1 = delF bs 0 (l.take x.2.1)∧x.2.2.2.drop x.2.1 = l.drop x.2.1∧x.2.2.1 b' = some (.cells (flat intE x.2.2.2++rest).toArray 3 (0,0))∧J x.2.1 x.2.2.1 G∧∀ k o,k≠b'→p k = some o→x.2.2.1 k = some o,m:=fun x=>l.length - x.2.1 }
     (i,i + 1,p1,l) (HeadP.of [] ⟨rfl,rfl,rfl,rfl,trivial⟩ ⟨rfl,trivial⟩) ⟨hi,Nat.lt_succ_self _,rfl,hd0.symm,rfl,hk1 _ _ hb,hj2,fun k o _ e=>hk1 k o e⟩ (fun _=>⟨rfl,rfl⟩) (fun x G2 hg2 hx=>W.mk ?_)
    obtain ⟨i2,j,q,cur⟩:=x
    obtain ⟨hj1,hij,hcl,hct,hcd,hq,hJ,hkp⟩:=hx
    dsimp only at hj1 hij hcl hct hcd hq hJ hkp
    dsimp only
    (conv=>whnf)
    refine IteP.mk (fun hlt=>W.mk ?_) (fun hge=>W.mk ?_)<;>(conv=>whnf)
    ·have hjl:j < l.length:=by omega
     have hjc:j < cur.length:=by omega
     have hcj:cur[j] = l[j]:=by
      have h1:cur[j]? = l[j]?:=by
       have:=congrArg (fun l=>l[0]?) hcd
       simpa using this
      rw [List.getElem?_eq_getElem hjc,List.getElem?_eq_getElem hjl] at h1
      exact Option.some.inj h1
     have hcall:=hT.call j hjl
     have hdt:=delF_take bs l hjl
     have hcd2:cur.drop (j + 1) = l.drop (j + 1):=by
      have:=congrArg (List.drop 1) hcd
      simpa [List.drop_drop,Nat.add_comm] using this
     have hSX:SlX intE (fun _=>False) q G2 (.slice (some ⟨b',0,none⟩) cur.length c) cur:=.inr ⟨3, .inr ⟨b',c,rest,rfl,hq,by rw [hcl];exact hr,by rw [hcl];exact hc,hm⟩,fun _ _ h=>h,by omega⟩
     have hrd:=fun (A:List Value→Prop) (k:W (A (intE.f cur[j])))=>hSX.rd hjc k
     rw [hcj] at hrd
     generalize l[j] = xj at hrd hcall hdt
     repeat' (refine ob ?_ ?_;(first | trivial | omega | (simp only [inR];omega) | exact ble (by rfl) | exact SlR.some ‹_› (by omega));(conv=>whnf))
     refine hrd _ (W.mk ?_)
     (conv=>whnf)
     refine CallvP.fn _ hcall (W.mk ?_)
     (conv=>whnf)
     refine HpcP.mk ⟨rfl,hJ⟩ (fun v q2 G3 hg3 hq3=>W.mk ?_)
     obtain ⟨rfl,hJ2,hk2⟩:=hq3
     dsimp only
     (conv=>whnf)
     have hq2:=hk2 _ _ id hq
     have hkp2:∀ k o,k≠b'→p k = some o→q2 k = some o:=fun k o h e=>hk2 _ _ id (hkp k o h e)
     refine ForkP.mk (fun hbj=>W.mk ?_) (fun hbj=>W.mk ?_)<;>(conv=>whnf)
     ·repeat' (refine ob ?_ ?_;(first | trivial | omega | (simp only [inR];omega) | exact ble (by rfl) | exact SlR.some ‹_› (by omega));(conv=>whnf))
      rw [hbj,cond_true] at hdt
      refine RoundP.of (i2,j + 1,q2,cur) (HeadP.of [] ⟨rfl,rfl,rfl,rfl,trivial⟩ ⟨rfl,trivial⟩) ⟨hjl,(show i2 < j + 1 by omega),hcl,by rw [hdt];exact hct,hcd2,hq2,hJ2,hkp2⟩ (by show l.length - (j + 1) < l.length - j;omega)
     ·repeat' (refine ob ?_ ?_;(first | trivial | omega | (simp only [inR];omega) | exact ble (by rfl) | exact SlR.some ‹_› (by omega));(conv=>whnf))
      have hset:=flat_set intE cur rest (intE.f xj) (i:=i2) (d:=0) (n:=1) (x:=xj) (by omega) (Nat.le_refl _) (by simp [intE])
      have hi2:(cur.set i2 xj).length = l.length:=by rw [List.length_set,hcl]
      have hdr:(cur.set i2 xj).drop (j + 1) = l.drop (j + 1):=by rw [List.drop_set_of_lt (by omega),hcd2]
      have hJ3:=hT.wr (j + 1) q2 _ (cur.set i2 xj) cur rest hJ2 hq2 hcl hi2 hdr
      refine HpkP.mk ⟨_,3,hq2,W.mk ?_⟩
      (conv=>whnf)
      refine OblP.mk (by simp only [List.length_append,flat_len,ao_some,Int.toNat_natCast,show (intE).k = 1 from rfl];omega) (W.mk ?_)
      (conv=>whnf)
      repeat' (refine ob ?_ ?_;(first | trivial | omega | (simp only [inR];omega) | exact ble (by rfl) | exact SlR.some ‹_› (by omega));(conv=>whnf))
      rw [hbj,cond_false] at hdt
      refine RoundP.of (i2 + 1,j + 1,upd q2 b' (some (.cells (flat intE (cur.set i2 xj)++rest).toArray 3 (0,0))),cur.set i2 xj) (HeadP.of [] ⟨rfl,rfl,rfl,rfl,trivial⟩ ⟨?_,trivial⟩) ⟨hjl,(show i2 + 1 < j + 1 by omega),hi2, ?_,hdr,upd_same _ _ _,hJ3,fun k o h e=>(upd_other q2 _ h).trans (hkp2 k o h e)⟩ (by show l.length - (j + 1) < l.length - j;omega)
      ·rw [← hset]
       show OB.heap _ = OB.heap _
       simp only [ao_some,ab_some,Nat.zero_add,Nat.add_zero,Int.toNat_natCast,show (intE).k = 1 from rfl]
       rfl
      ·show (cur.set i2 xj).take (i2 + 1) = delF bs 0 (l.take (j + 1))
       rw [hdt, ← hct,List.take_add_one,List.getElem?_set_self (by omega),List.take_set_of_le (Nat.le_refl _)]
       rfl
    ·repeat' (refine ob ?_ ?_;(first | trivial | omega | (simp only [inR];omega) | exact ble (by rfl) | exact SlR.some ‹_› (by omega));(conv=>whnf))
     have hjj:j = l.length:=by omega
     subst hjj
     rw [Int.toNat_natCast,Int.toNat_natCast,cut_lt (show i2 < c by omega)]
     have hzf:=zero_flat intE (0:Int) (zs:=[.int .i64 0]) rfl (l.length - i2)
     have hJ3:=hT.wr l.length q _ (cur.take i2++List.replicate (l.length - i2) (0:Int)) cur rest hJ hq hcl (by simp;omega) (by rw [List.drop_of_length_le (by simp;omega),List.drop_of_length_le (Nat.le_refl _)])
     refine HpkP.mk ⟨_,3,hq,W.mk ?_⟩
     (conv=>whnf)
     refine OblP.mk ⟨by simp only [Int.toNat_natCast];omega,rfl,by simp only [List.length_append,flat_len,ao_some,Int.toNat_natCast,hcl,Nat.sub_mul,show (intE).k = 1 from rfl,List.length_cons,List.length_nil];omega⟩ (W.mk ?_)
     (conv=>whnf)
     repeat' (refine ob ?_ ?_;(first | trivial | omega | (simp only [inR];omega) | exact ble (by rfl) | exact SlR.some ‹_› (by omega));(conv=>whnf))
     rw [Int.toNat_natCast,Int.toNat_natCast,Int.toNat_natCast]
     refine NmP.mk ⟨[],W.mk ?_⟩
     (conv=>whnf)
     have hct2:cur.take i2 = delF bs 0 l:=by rw [hct,List.take_length]
     have hdl:(delF bs 0 l).length = i2:=by rw [← hct2,List.length_take];omega
     have hfin:(flat intE cur++rest).take (ao (some (⟨b',0 + i2 * 1,none⟩:Addr)))++(Builtin.zeroCells (([.int .i64 0]:List Value)).toArray (l.length - i2)).toList++(flat intE cur++rest).drop (ao (some (⟨b',0 + i2 * 1,none⟩:Addr)) + (l.length - i2) * (([.int .i64 0]:List Value)).length) = flat intE (cur.take i2++List.replicate (l.length - i2) (0:Int))++rest:=by
      have h1:i2 * 1≤(flat intE cur).length:=by rw [flat_len,show (intE).k = 1 from rfl];omega
      have h2:(flat intE cur).length = i2 * 1 + (l.length - i2) * 1:=by rw [flat_len,hcl,show (intE).k = 1 from rfl];omega
      have h3:=flat_take intE cur i2 (by omega)
      rw [hzf,flat_app,h3,ao_some,Nat.zero_add,show (([.int .i64 0]:List Value)).length = 1 from rfl, ← h2,List.take_append_of_le_length h1,List.drop_append,List.drop_of_length_le (Nat.le_refl _),Nat.sub_self]
      rfl
     rw [cut_lt (show 0 < c by omega)]
     refine FinHp.of (p:=upd q b' (some (.cells (flat intE (cur.take i2++List.replicate (l.length - i2) (0:Int))++rest).toArray 3 (0,0)))) (congrArg (fun x=>some (OB.heap (upd q b' (some (Obj.cells (List.toArray x) 3 (0,0)))))) hfin) ⟨.inr ⟨b',c,flat intE (List.replicate (l.length - i2) (0:Int))++rest, ?_, ?_, ?_, ?_,hm⟩, ?_,hJ3,fun k o h e=>(upd_other q _ (fun hk=>h (by rw [hk];rfl))).trans (hkp k o (fun hk=>h (by rw [hk];rfl)) e)⟩
     ·rw [hdl]
      show Value.slice _ _ _ = _
      simp
     ·rw [upd_same,flat_app,hct2,List.append_assoc]
     ·rw [List.length_append,flat_len,List.length_replicate,hr,hdl, ← Nat.add_mul]
      congr 1
      omega
     ·rw [hdl];omega
     ·intro k h
      exact h
theorem del93 {l:List It} (hl9:l.length≤140737488355328) (v0:Value) {gf:FuncId} {fs cp:Array Value} {b:Nat} {J:Nat→Hp→Hp→Prop} {bs:Nat→Bool} (hT:Teller Tryz.prog itE 164 (.func (.func gf) fs cp) (fun w=>.agg (itE.f w).toArray) l b J bs):Sound Tryz.prog 122 id (delS itE 164 l v0 (.func (.func gf) fs cp) b J bs):=by
 refine comp93.hp (Tab.nil _) (fun args p G h=>?_) (fun args p v p' G G' hg h=>⟨h.1,h.2.1,hT.mono _ _ _ _ hg h.2.2.1,h.2.2.2⟩) (fun args p G h=>?_)
 ·obtain ⟨rfl,_⟩:=h;simp
 ·obtain ⟨rfl,hrow,hbl,hj⟩:=h
  obtain ⟨va,vn,c,rfl⟩:∃ a n c,v0 = .slice a n c:=by rcases hrow with ⟨rfl,_⟩ | ⟨b',c',rest,rfl,_⟩<;>exact ⟨_,_,_,rfl⟩
  (conv=>whnf)
  refine CallH.mk _ (idx111 hT.judge) body111 (W.mk ?_)
  (conv=>whnf)
  refine HpcP.mk ⟨_,rfl, .inr ⟨164,hrow,fun _ _ h=>h,hl9⟩,hj⟩ (fun v p1 G1 hg1 hq=>W.mk ?_)
  obtain ⟨hq,hk⟩:=hq
  have hk1:∀ k o,p k = some o→p1 k = some o:=fun k o e=>hk k o id e
  rcases hq with ⟨rfl,hf,hj2⟩ | ⟨i,hi,rfl,hbi,hf,hj2⟩
  ·dsimp only
   (conv=>whnf)
   refine IteP.mk (fun _=>W.mk ?_) (fun h=>by exfalso;omega)
   (conv=>whnf)
   refine NmP.mk ⟨[],W.mk ?_⟩
   (conv=>whnf)
   refine FinHp.of rfl ⟨?_,fun k h=>h,hj2,fun k o _ e=>hk1 k o e⟩
   rw [delF_none bs l 0 (fun j _ h=>hf j (by omega))]
   exact hrow.mono fun k o _ e=>hk1 k o e
  ·rcases hrow with ⟨_,rfl⟩ | ⟨b',c',rest,e,hb,hr,hc,hm⟩
   ·simp at hi
   ·cases e
    have:=hbl b' rfl
    subst this
    dsimp only
    (conv=>whnf)
    refine IteP.mk (fun h=>by exfalso;omega) (fun _=>W.mk ?_)
    (conv=>whnf)
    repeat' (refine ob ?_ ?_;(first | trivial | omega | (simp only [inR];omega) | exact ble (by rfl) | exact SlR.some ‹_› (by omega));(conv=>whnf))
    have hd0:delF bs 0 (l.take (i + 1)) = l.take i:=by
     rw [delF_take bs l hi,hbi,cond_true,delF_none bs (l.take i) 0 (fun j _ h=>hf j (by simp at h;omega))]
    refine LoopP.of { α:=Nat × Nat × Hp × List It,fr:=fun x=>[(0, .v (.slice (some ⟨b',0,none⟩) l.length c)),(1, .v (.func (.func gf) fs cp)),(5, .v (I x.1)),(6, .v (I x.2.1))],H:=fun x=>[(0, .heap x.2.2.1)],ok:=fun x G=>x.2.1≤l.length∧x.1 < x.2.1∧x.2.2.2.length = l.length∧x.2.2.2.take x.1 = delF bs 0 (l.take x.2.1)∧x.2.2.2.drop x.2.1 = l.drop x.2.1∧x.2.2.1 b' = some (.cells (flat itE x.2.2.2++rest).toArray 164 (0,0))∧J x.2.1 x.2.2.1 G∧∀ k o,k≠b'→p k = some o→x.2.2.1 k = some o,m:=fun x=>l.length - x.2.1 }
     (i,i + 1,p1,l) (HeadP.of [] ⟨rfl,rfl,rfl,rfl,trivial⟩ ⟨rfl,trivial⟩) ⟨hi,Nat.lt_succ_self _,rfl,hd0.symm,rfl,hk1 _ _ hb,hj2,fun k o _ e=>hk1 k o e⟩ (fun _=>⟨rfl,rfl⟩) (fun x G2 hg2 hx=>W.mk ?_)
    obtain ⟨i2,j,q,cur⟩:=x
    obtain ⟨hj1,hij,hcl,hct,hcd,hq,hJ,hkp⟩:=hx
    dsimp only at hj1 hij hcl hct hcd hq hJ hkp
    dsimp only
    (conv=>whnf)
    refine IteP.mk (fun hlt=>W.mk ?_) (fun hge=>W.mk ?_)<;>(conv=>whnf)
    ·have hjl:j < l.length:=by omega
     have hjc:j < cur.length:=by omega
     have hcj:cur[j] = l[j]:=by
      have h1:cur[j]? = l[j]?:=by
       have:=congrArg (fun l=>l[0]?) hcd
       simpa using this
      rw [List.getElem?_eq_getElem hjc,List.getElem?_eq_getElem hjl] at h1
      exact Option.some.inj h1
     have hcall:=hT.call j hjl
     have hdt:=delF_take bs l hjl
     have hcd2:cur.drop (j + 1) = l.drop (j + 1):=by
      have:=congrArg (List.drop 1) hcd
      simpa [List.drop_drop,Nat.add_comm] using this
     have hSX:SlX itE (fun _=>False) q G2 (.slice (some ⟨b',0,none⟩) cur.length c) cur:=.inr ⟨164, .inr ⟨b',c,rest,rfl,hq,by rw [hcl];exact hr,by rw [hcl];exact hc,hm⟩,fun _ _ h=>h,by omega⟩
     have hrd:=fun (A:List Value→Prop) (k:W (A (itE.f cur[j])))=>hSX.rd hjc k
     rw [hcj] at hrd
     generalize l[j] = xj at hrd hcall hdt
     repeat' (refine ob ?_ ?_;(first | trivial | omega | (simp only [inR];omega) | exact ble (by rfl) | exact SlR.some ‹_› (by omega));(conv=>whnf))
     refine hrd _ (W.mk ?_)
     (conv=>whnf)
     refine CallvP.fn _ hcall (W.mk ?_)
     (conv=>whnf)
     refine HpcP.mk ⟨rfl,hJ⟩ (fun v q2 G3 hg3 hq3=>W.mk ?_)
     obtain ⟨rfl,hJ2,hk2⟩:=hq3
     dsimp only
     (conv=>whnf)
     have hq2:=hk2 _ _ id hq
     have hkp2:∀ k o,k≠b'→p k = some o→q2 k = some o:=fun k o h e=>hk2 _ _ id (hkp k o h e)
     refine ForkP.mk (fun hbj=>W.mk ?_) (fun hbj=>W.mk ?_)<;>(conv=>whnf)
     ·repeat' (refine ob ?_ ?_;(first | trivial | omega | (simp only [inR];omega) | exact ble (by rfl) | exact SlR.some ‹_› (by omega));(conv=>whnf))
      rw [hbj,cond_true] at hdt
      refine RoundP.of (i2,j + 1,q2,cur) (HeadP.of [] ⟨rfl,rfl,rfl,rfl,trivial⟩ ⟨rfl,trivial⟩) ⟨hjl,(show i2 < j + 1 by omega),hcl,by rw [hdt];exact hct,hcd2,hq2,hJ2,hkp2⟩ (by show l.length - (j + 1) < l.length - j;omega)
     ·repeat' (refine ob ?_ ?_;(first | trivial | omega | (simp only [inR];omega) | exact ble (by rfl) | exact SlR.some ‹_› (by omega));(conv=>whnf))
      have hset:=flat_set itE cur rest (itE.f xj) (i:=i2) (d:=0) (n:=4) (x:=xj) (by omega) (Nat.le_refl _) (by simp [itE])
      have hi2:(cur.set i2 xj).length = l.length:=by rw [List.length_set,hcl]
      have hdr:(cur.set i2 xj).drop (j + 1) = l.drop (j + 1):=by rw [List.drop_set_of_lt (by omega),hcd2]
      have hJ3:=hT.wr (j + 1) q2 _ (cur.set i2 xj) cur rest hJ2 hq2 hcl hi2 hdr
      refine HpkP.mk ⟨_,164,hq2,W.mk ?_⟩
      (conv=>whnf)
      refine OblP.mk (by simp only [List.length_append,flat_len,ao_some,Int.toNat_natCast,show (itE).k = 4 from rfl];omega) (W.mk ?_)
      (conv=>whnf)
      repeat' (refine ob ?_ ?_;(first | trivial | omega | (simp only [inR];omega) | exact ble (by rfl) | exact SlR.some ‹_› (by omega));(conv=>whnf))
      rw [hbj,cond_false] at hdt
      refine RoundP.of (i2 + 1,j + 1,upd q2 b' (some (.cells (flat itE (cur.set i2 xj)++rest).toArray 164 (0,0))),cur.set i2 xj) (HeadP.of [] ⟨rfl,rfl,rfl,rfl,trivial⟩ ⟨?_,trivial⟩) ⟨hjl,(show i2 + 1 < j + 1 by omega),hi2, ?_,hdr,upd_same _ _ _,hJ3,fun k o h e=>(upd_other q2 _ h).trans (hkp2 k o h e)⟩ (by show l.length - (j + 1) < l.length - j;omega)
      ·rw [← hset]
       show OB.heap _ = OB.heap _
       simp only [ao_some,ab_some,Nat.zero_add,Nat.add_zero,Int.toNat_natCast,show (itE).k = 4 from rfl]
       rfl
      ·show (cur.set i2 xj).take (i2 + 1) = delF bs 0 (l.take (j + 1))
       rw [hdt, ← hct,List.take_add_one,List.getElem?_set_self (by omega),List.take_set_of_le (Nat.le_refl _)]
       rfl
    ·repeat' (refine ob ?_ ?_;(first | trivial | omega | (simp only [inR];omega) | exact ble (by rfl) | exact SlR.some ‹_› (by omega));(conv=>whnf))
     have hjj:j = l.length:=by omega
     subst hjj
     rw [Int.toNat_natCast,Int.toNat_natCast,cut_lt (show i2 < c by omega)]
     have hzf:=zero_flat itE (⟨ByteArray.mk #[],0,0,0⟩:It) (zs:=[.string (ByteArray.mk #[]), .int .i64 0, .int .i64 0, .int .i64 0]) rfl (l.length - i2)
     have hJ3:=hT.wr l.length q _ (cur.take i2++List.replicate (l.length - i2) (⟨ByteArray.mk #[],0,0,0⟩:It)) cur rest hJ hq hcl (by simp;omega) (by rw [List.drop_of_length_le (by simp;omega),List.drop_of_length_le (Nat.le_refl _)])
     refine HpkP.mk ⟨_,164,hq,W.mk ?_⟩
     (conv=>whnf)
     refine OblP.mk ⟨by simp only [Int.toNat_natCast];omega,rfl,by simp only [List.length_append,flat_len,ao_some,Int.toNat_natCast,hcl,Nat.sub_mul,show (itE).k = 4 from rfl,List.length_cons,List.length_nil];omega⟩ (W.mk ?_)
     (conv=>whnf)
     repeat' (refine ob ?_ ?_;(first | trivial | omega | (simp only [inR];omega) | exact ble (by rfl) | exact SlR.some ‹_› (by omega));(conv=>whnf))
     rw [Int.toNat_natCast,Int.toNat_natCast,Int.toNat_natCast]
     refine NmP.mk ⟨[],W.mk ?_⟩
     (conv=>whnf)
     have hct2:cur.take i2 = delF bs 0 l:=by rw [hct,List.take_length]
     have hdl:(delF bs 0 l).length = i2:=by rw [← hct2,List.length_take];omega
     have hfin:(flat itE cur++rest).take (ao (some (⟨b',0 + i2 * 4,none⟩:Addr)))++(Builtin.zeroCells (([.string (ByteArray.mk #[]), .int .i64 0, .int .i64 0, .int .i64 0]:List Value)).toArray (l.length - i2)).toList++(flat itE cur++rest).drop (ao (some (⟨b',0 + i2 * 4,none⟩:Addr)) + (l.length - i2) * (([.string (ByteArray.mk #[]), .int .i64 0, .int .i64 0, .int .i64 0]:List Value)).length) = flat itE (cur.take i2++List.replicate (l.length - i2) (⟨ByteArray.mk #[],0,0,0⟩:It))++rest:=by
      have h1:i2 * 4≤(flat itE cur).length:=by rw [flat_len,show (itE).k = 4 from rfl];omega
      have h2:(flat itE cur).length = i2 * 4 + (l.length - i2) * 4:=by rw [flat_len,hcl,show (itE).k = 4 from rfl];omega
      have h3:=flat_take itE cur i2 (by omega)
      rw [hzf,flat_app,h3,ao_some,Nat.zero_add,show (([.string (ByteArray.mk #[]), .int .i64 0, .int .i64 0, .int .i64 0]:List Value)).length = 4 from rfl, ← h2,List.take_append_of_le_length h1,List.drop_append,List.drop_of_length_le (Nat.le_refl _),Nat.sub_self]
      rfl
     rw [cut_lt (show 0 < c by omega)]
     refine FinHp.of (p:=upd q b' (some (.cells (flat itE (cur.take i2++List.replicate (l.length - i2) (⟨ByteArray.mk #[],0,0,0⟩:It))++rest).toArray 164 (0,0)))) (congrArg (fun x=>some (OB.heap (upd q b' (some (Obj.cells (List.toArray x) 164 (0,0)))))) hfin) ⟨.inr ⟨b',c,flat itE (List.replicate (l.length - i2) (⟨ByteArray.mk #[],0,0,0⟩:It))++rest, ?_, ?_, ?_, ?_,hm⟩, ?_,hJ3,fun k o h e=>(upd_other q _ (fun hk=>h (by rw [hk];rfl))).trans (hkp k o (fun hk=>h (by rw [hk];rfl)) e)⟩
     ·rw [hdl]
      show Value.slice _ _ _ = _
      simp
     ·rw [upd_same,flat_app,hct2,List.append_assoc]
     ·rw [List.length_append,flat_len,List.length_replicate,hr,hdl, ← Nat.add_mul]
      congr 1
      omega
     ·rw [hdl];omega
     ·intro k h
      exact h
end Go.Proofs.YtefnikpoimaiiaaGreat
