/- TopRevised: the reference's small functions. TopRevised: all, ContainsFunc, IndexFunc of papers, strings and bytes, for any test. (printed by a program of mine) TopRevised: the reference: words, Of, Clash, Few. Contracts of tests; contracts by their first arguments; maps as lists of what they hold. TopRevised: paper: words; papers by their numbers. TopRevised: paper: words of a paper; tests of papers. TopRevised: paper: tests of papers that hold what they are asked with. TopRevised: paper: no fault of a motion that is right. TopRevised: paper: as many numbers as papers (a walk by hand). TopRevised: paper: CheckMotion of a motion that is right. TopRevised: paper: CheckMotion gives 0. TopRevised: paper: check of a choice that is right. TopRevised: paper: check. TopRevised: sorting: what is compared; lengths in bits. TopRevised: slices.SortFunc of few papers. TopRevised: while papers are adopted (plain). -/
import Derived.Test.YtefnikpoimaiiaaGreatME
import Derived.Test.YtefnikpoimaiiaaGreatMD
import Derived.Maps.Keyed
import Derived.WalkArith
import Derived.Tactics
import Derived.Tactics2
import Derived.Laws.Pointers
import Derived.Carry
import Derived.RegionTactic
import Derived.ChangeAlike
import Derived.WalkKit
import Derived.Deep.RegionHeld3
import Init.Data.List.Nat.Perm
set_option linter.unusedSimpArgs false
set_option linter.unusedVariables false
namespace Go.Proofs.YtefnikpoimaiiaaGreat
open Go.Pal Go.RowKit
set_option maxRecDepth 100000
def inF (n lo hi:Int):Bool:=decide (lo≤n∧n≤hi)
def inS:PSpec:=.fn (fun args _=>∃ n lo hi,args = [I n,I lo,I hi]) (fun args=>match args with | [.int _ n, .int _ lo, .int _ hi]=>.bool (inF n lo hi) | _=>undef)
theorem in31:Sound Tryz.prog 31 id inS:=by
 refine comp31.fn (Tab.nil _) (fun args G h=>?_) (fun args G h=>?_)
 ·obtain ⟨n,lo,hi,rfl⟩:=h;simp
 ·obtain ⟨n,lo,hi,rfl⟩:=h
  (conv=>whnf)
  repeat' (first | (refine IteP.mk (fun _=>W.mk ?_) (fun _=>W.mk ?_)<;>(conv=>whnf)) | (refine ob ?_ ?_;(first | trivial | omega | (simp only [inR];omega) | exact ble (by rfl) | exact SlR.some ‹_› (by omega));(conv=>whnf)) | (refine ForkP.mk (fun _=>W.mk ?_) (fun _=>W.mk ?_)<;>(conv=>whnf)) | (refine ra ‹_› (by rfl) ?_;(conv=>whnf)) | (refine rb ‹_› (by rfl) ?_;(conv=>whnf)) | (refine rc ‹_› (by rfl) ?_;(conv=>whnf)) | (refine rd ‹_› (by rfl) ?_;(conv=>whnf)) | (refine FinP.mk ?_))
  all_goals (refine congrArg Value.bool ?_;simp [inF, *])
def hasI (l:List Int) (x:Int):Bool:=l.any fun y=>decide (y = x)
theorem has13:Sound Tryz.prog 13 id (gsca (args2 (slRd intE) intRd fun _ _=>True) fun x v=>v = .bool (hasI x.1 x.2)):=by
 refine comp13.gsca (Tab.nil _) (fun args G s h=>?_) (fun args G s h=>?_)
 ·obtain ⟨v,w,rfl,_⟩:=h;simp
 ·obtain ⟨l,x⟩:=s
  obtain ⟨v,w,rfl,⟨a,n,c,rfl,hl,hn⟩,rfl,_⟩:=h
  have hln:=hl.len
  dsimp only at hl hln
  dsimp only
  (conv=>whnf)
  refine LoopP.of { α:=Nat × Unit,fr:=fun z=>[(0, .v (.slice a n c)),(1, .v (I x)),(5, .v (I z.1))],H:=fun _=>[],ok:=fun z _=>z.1≤n∧∀ j (h:j < l.length),j < z.1→l[j]≠x,m:=fun z=>n - z.1 }
   (0,()) (HeadP.of [] ⟨rfl,rfl,rfl,trivial⟩ trivial) ⟨Nat.zero_le _,fun j _ h=>absurd h (Nat.not_lt_zero _)⟩ (fun _=>⟨rfl,rfl⟩) (fun z G' hG hz=>W.mk ?_)
  obtain ⟨i,_⟩:=z
  obtain ⟨k1,k2⟩:=hz
  dsimp only at k1 k2
  dsimp only
  replace hl:=SlR.grow (G:=G) (G':=G') (fun _ _ h=>h) hl hG
  (conv=>whnf)
  refine IteP.mk (fun hlt=>W.mk ?_) (fun hge=>W.mk ?_)<;>(conv=>whnf)
  ·have hlt:i < l.length:=by have hlt:(i:Int) < n:=hlt;omega
   have hel:=hl.el hlt
   repeat' (first | (refine ob ?_ ?_;(first | trivial | omega | (simp only [inR];omega) | exact ble (by rfl) | exact SlR.some ‹_› (by omega));(conv=>whnf)) | (first | (refine ra ‹_› (by rfl) ?_;(conv=>whnf)) | (refine rb ‹_› (by rfl) ?_;(conv=>whnf)) | (refine rc ‹_› (by rfl) ?_;(conv=>whnf)) | (refine rd ‹_› (by rfl) ?_;(conv=>whnf))))
   refine IteP.mk (fun he=>W.mk ?_) (fun he=>W.mk ?_)<;>(conv=>whnf)
   ·have he:l[i] = x:=he
    refine FinP.mk ?_
    show Value.bool true = .bool (hasI l x)
    have:hasI l x = true:=List.any_eq_true.2 ⟨l[i],List.getElem_mem hlt,by simp [he]⟩
    rw [this]
   ·have he:¬ l[i] = x:=he
    (refine ob ?_ ?_;(first | trivial | omega | (simp only [inR];omega) | exact ble (by rfl) | exact SlR.some ‹_› (by omega));(conv=>whnf))
    refine RoundP.of (i + 1,()) (HeadP.of [] ⟨rfl,rfl,rfl,trivial⟩ trivial) ⟨by show i + 1≤n;omega,fun j h h1=>?_⟩ (by show n - (i + 1) < n - i;omega)
    by_cases e:j = i
    ·subst e;exact he
    ·exact k2 j h (by have h1:j < i + 1:=h1;omega)
  ·have hge:¬ (i:Int) < n:=hge
   refine FinP.mk ?_
   show Value.bool false = .bool (hasI l x)
   have:hasI l x = false:=by
    rw [hasI,List.any_eq_false]
    intro y hy
    obtain ⟨j,hj,rfl⟩:=List.getElem_of_mem hy
    simpa using k2 j hj (by omega)
   rw [this]
theorem cs_get {m:Mt} {i:Nat} (h:i < m.ps.length):m.cs[i]'(by simpa using h) = m.ps[i].c:=by simp
theorem find12:Sound Tryz.prog 12 id (gsca (args2 moRd intRd fun _ _=>True) fun x v=>v = I (ixF x.1.ps x.2)):=by
 refine comp12.gsca (Tab.nil _) (fun args G s h=>?_) (fun args G s h=>?_)
 ·obtain ⟨v,w,rfl,_⟩:=h;simp
 ·obtain ⟨m,x⟩:=s
  obtain ⟨v,w,rfl,⟨w0,a,n,c,rfl,hw,hl,hn,hp⟩,rfl,_⟩:=h
  have hln:=hl.len
  have hcl:m.cs.length = m.ps.length:=by simp
  dsimp only at hl hln hw hp
  dsimp only
  obtain ⟨wa,wn,wc,rfl,_⟩:=hw
  (conv=>whnf)
  refine LoopP.of { α:=Nat × Unit,fr:=fun z=>[(1, .v (I x)),(2, .c (.ptr 0 0)),(5, .v (I z.1))],H:=fun _=>[(0, .cells .anon [.val (.slice wa wn wc), .val (.slice a n c)] 25)],ok:=fun z _=>z.1≤n∧∀ j (h:j < m.ps.length),j < z.1→m.ps[j].c.n≠x,m:=fun z=>n - z.1 }
   (0,()) (HeadP.of [] ⟨rfl,rfl,rfl,trivial⟩ ⟨rfl,trivial⟩) ⟨Nat.zero_le _,fun j _ h=>absurd h (Nat.not_lt_zero _)⟩ (fun _=>⟨rfl,rfl⟩) (fun z G' hG hz=>W.mk ?_)
  obtain ⟨i,_⟩:=z
  obtain ⟨k1,k2⟩:=hz
  dsimp only at k1 k2
  dsimp only
  replace hl:=SlR.grow (G:=G) (G':=G') (fun _ _ h=>h) hl hG
  (conv=>whnf)
  refine IteP.mk (fun hlt=>W.mk ?_) (fun hge=>W.mk ?_)<;>(conv=>whnf)
  ·have hlt:i < m.cs.length:=by have hlt:(i:Int) < n:=hlt;omega
   have hel:=hl.el hlt
   rw [cs_get (by omega)] at hel
   have hlt':i < m.ps.length:=by omega
   refine OblP.mk ⟨by omega,by omega⟩ (W.mk ?_)
   (conv=>whnf)
   refine OblP.mk (hl.some (by omega)) (W.mk ?_)
   (conv=>whnf)
   refine RdP.at (cs:=[I m.ps[i].c.n]) (CellsAt.drop (d:=0) (n:=1) hel) rfl (W.mk ?_)
   (conv=>whnf)
   refine IteP.mk (fun he=>W.mk ?_) (fun he=>W.mk ?_)<;>(conv=>whnf)
   ·have he:m.ps[i].c.n = x:=he
    refine FinP.mk ?_
    show I i = I (ixF m.ps x)
    rw [ixF_some hlt' he fun j hj=>k2 j (by omega) hj]
   ·have he:¬ m.ps[i].c.n = x:=he
    (refine ob ?_ ?_;(first | trivial | omega | (simp only [inR];omega) | exact ble (by rfl) | exact SlR.some ‹_› (by omega));(conv=>whnf))
    refine RoundP.of (i + 1,()) (HeadP.of [] ⟨rfl,rfl,rfl,trivial⟩ ⟨rfl,trivial⟩) ⟨by show i + 1≤n;omega,fun j h h1=>?_⟩ (by show n - (i + 1) < n - i;omega)
    by_cases e:j = i
    ·subst e;exact he
    ·exact k2 j h (by have h1:j < i + 1:=h1;omega)
  ·have hge:¬ (i:Int) < n:=hge
   refine FinP.mk ?_
   show I (-1) = I (ixF m.ps x)
   rw [ixF_none fun j hj=>k2 j hj (by omega)]
theorem short29:Sound Tryz.prog 29 id (gsca (args1 (slURd strE) fun _=>True) fun l v=>∃ b,v = .bool b∧(b = true→l.length≤65)):=by
 refine comp29.gsca (Tab.nil _) (fun args G s h=>?_) (fun args G l h=>?_)
 ·obtain ⟨v,rfl,_⟩:=h;simp
 ·obtain ⟨v,rfl,⟨a,n,c,rfl,hl,hn⟩,_⟩:=h
  have hln:=hl.len
  have hmx:n≤9223372036854775807:=hn
  (conv=>whnf)
  refine LoopP.of { α:=Nat × Unit,fr:=fun z=>[(0, .v (.slice a n c)),(3, .v (I z.1))],H:=fun _=>[],ok:=fun z _=>z.1≤n,m:=fun z=>n - z.1 }
   (0,()) (HeadP.of [] ⟨rfl,rfl,trivial⟩ trivial) (Nat.zero_le _) (fun _=>⟨rfl,rfl⟩) (fun z G' hG hz=>W.mk ?_)
  obtain ⟨i,_⟩:=z
  have k1:i≤n:=hz
  clear hz
  dsimp only
  replace hl:=SlR.grow (G:=G) (G':=G') (fun _ _ h=>h) hl hG
  (conv=>whnf)
  refine IteP.mk (fun hlt=>W.mk ?_) (fun hge=>W.mk ?_)<;>(conv=>whnf)
  ·have hlt:i < l.length:=by have hlt:(i:Int) < n:=hlt;omega
   have hel:=hl.el hlt
   repeat' (first | (refine ob ?_ ?_;(first | trivial | omega | (simp only [inR];omega) | exact ble (by rfl) | exact SlR.some ‹_› (by omega));(conv=>whnf)) | (first | (refine ra ‹_› (by rfl) ?_;(conv=>whnf)) | (refine rb ‹_› (by rfl) ?_;(conv=>whnf)) | (refine rc ‹_› (by rfl) ?_;(conv=>whnf)) | (refine rd ‹_› (by rfl) ?_;(conv=>whnf))))
   refine IteP.mk (fun he=>W.mk ?_) (fun he=>W.mk ?_)<;>(conv=>whnf)
   ·exact FinP.mk ⟨false,rfl,fun h=>by cases h⟩
   ·(refine ob ?_ ?_;(first | trivial | omega | (simp only [inR];omega) | exact ble (by rfl) | exact SlR.some ‹_› (by omega));(conv=>whnf))
    exact RoundP.of (i + 1,()) (HeadP.of [] ⟨rfl,rfl,trivial⟩ trivial) (by show i + 1≤n;omega) (by show n - (i + 1) < n - i;omega)
  ·refine IteP.mk (fun he=>W.mk ?_) (fun he=>W.mk ?_)<;>(conv=>whnf)
   ·have he:(n:Int)≤65:=he
    exact FinP.mk ⟨true,rfl,fun _=>by omega⟩
   ·exact FinP.mk ⟨false,rfl,fun h=>by cases h⟩
theorem und9:Tryz.prog.underlying 9 = some .string:=by kernel_rfl
theorem pur_idxS {s:ByteArray} {i:Nat} {b:UInt8} (h:s[i]? = some b):∀ w,((POp.idx 9).sem [.string s,I (i:Int)]).run Tryz.prog w = .ok (U8 (b.toNat:Nat)) w:=fun w=>by
 have e1:(POp.idx 9).sem [.string s,I (i:Int)] = Instr.index 9 (.string s) (I (i:Int)):=rfl
 rw [e1]
 simp [Instr.index,run_underlying und9,asIntOf,h]
theorem bytes_get {s:ByteArray} {i:Nat} (h:i < s.size):∃ b:UInt8,s[i]? = some b∧∃ h:i < (bytesL s).length,(bytesL s)[i] = (b.toNat:Int):=by
 refine ⟨s[i],by simp [h],by simpa [bytesL] using h,by simp [bytesL];rfl⟩
theorem bytes_len {s:ByteArray}:(bytesL s).length = s.size:=by simp [bytesL]
end Go.Proofs.YtefnikpoimaiiaaGreat

namespace Go.Proofs.YtefnikpoimaiiaaGreat
open Go.Pal Go.RowKit
set_option maxRecDepth 100000
abbrev bptr (b:Nat):Value:=.pointer (some ⟨b,0,none⟩)
def TestS {α:Type} (val:α→Value) (p:α→Bool) (q:α→Prop) (J:Hp→Prop) (ls:List LE):PSpec :=
 .st (fun args l G=>l = ls∧J G∧∃ x,args = [val x]∧q x) (fun args l v ns _=>ns = []∧∃ x,args = [val x]∧v = .bool (p x))
def AllS {α:Type} (e:El α) (right:Value) (r:List α→Value) (q:α→Prop) (J:Hp→Prop) (ls:List LE):PSpec :=
 .st (fun args l G=>l = ls∧J G∧∃ w xs,args = [w,right]∧SlV e G w xs∧∀ x∈xs,q x) (fun args l v ns G=>ns = []∧∃ w xs,args = [w,right]∧SlV e G w xs∧v = r xs)
def idxP {α:Type} (p:α→Bool) (l:List α) (k:Nat):Int:=match l with
 | []=>-1
 | r :: t=>if p r then idxP p t (k + 1) else (k:Int)
theorem idxP_all {α:Type} (p:α→Bool):∀ (l:List α) (k:Nat),decide (0≤idxP p l k) = !(l.all p)
 | [],k=>rfl
 | r :: t,k=>by
  unfold idxP
  cases hf:p r with
  | true=>simp only [if_true,List.all_cons,hf,Bool.true_and];exact idxP_all p t _
  | false=>simp [hf]
def u8E:El Int:=⟨1,fun x=>[U8 x],fun {x y} h=>by simp at h;exact h,fun _=>rfl,fun _ v hv=>by simp at hv;rw [hv];rfl⟩
theorem at0 {P:Program} {f:FuncId} {ic:IC} {rs:List IRes} {nt:Nat} (h:Comp P f ic rs nt):CompAt P f 0 ic rs nt:=⟨h.ex⟩

/-! ### 134 -/
theorem inj134:∀ x y:Pc,(pcV) x = (pcV) y→x = y:=fun x y h=>by cases x;cases y;simp [pcV] at h;simp [h]
theorem not191 (g:FuncId) (fi ca:Array Value) (p:Pc→Bool) (q:Pc→Prop) (J:Hp→Prop) (b:Nat) (hr:SoundFn Tryz.prog (.func (.func g) fi ca) (TestS pcV p q J [])):Sound Tryz.prog 191 (fun a=>(#[]:Array Value).toList++a++(#[bptr b]:Array Value).toList) (TestS pcV (fun x=>!p x) q J [⟨b,false, .cells [.func (.func g) fi ca] 179⟩]):=by
 refine ⟨fun args ls v ns G G' hg h=>h,fun args ls G Wd hsub hls hnd hpre=>?_⟩
 obtain ⟨rfl,hj,x,rfl,hx⟩:=hpre
 refine st_sound (Tab.nil _) comp191 (svs:=[.agg [.val (I x.n), .val (I x.of), .val (I x.fr), .val (I x.to), .val (x.sl)], .c (.ptr 0 0)]) (obs:=[.cells (.named b) [.val (.func (.func g) fi ca)] 179]) (by simp) hsub hls hnd (Nat.le_of_ble_eq_true rfl) ?_ ?_ ?_
 ·exact ⟨⟨[I x.n,I x.of,I x.fr,I x.to,x.sl],rfl,relL_vals _ [I x.n,I x.of,I x.fr,I x.to,x.sl]⟩,(by intro c hc;simp at hc;rcases hc with rfl | rfl | rfl | rfl | rfl<;>trivial),⟨_,rfl,rfl⟩,(Nat.le_of_ble_eq_true rfl:0 < 2),trivial⟩
 ·exact ⟨⟨_,rfl,relL_vals _ [.func (.func g) fi ca],(by intro c hc;simp at hc;subst hc;trivial)⟩,trivial⟩
 ·(conv=>whnf)
  refine CallvP.fn _ hr (W.mk ?_)
  (conv=>whnf)
  refine StP.mk ⟨[],trivial,(by show ([]:List Nat).Nodup;decide),⟨rfl,hj,x,rfl,hx⟩,fun v ns G3 hg3 hpost=>W.mk ?_⟩
  obtain ⟨rfl,y,q1,rfl⟩:=hpost
  have hxy:=inj134 x y (List.cons.inj q1).1
  subst hxy
  (conv=>whnf)
  refine ForkP.mk (fun hm=>W.mk ?_) (fun hm=>W.mk ?_)<;>(conv=>whnf)<;>refine FinS.mk ⟨[],⟨.cells [.func (.func g) fi ca] 179,⟨_,rfl,rfl⟩,trivial,rfl,rfl⟩,rfl,x,rfl, ?_⟩<;>(show Value.bool _ = Value.bool (!p x);rw [hm];rfl)
theorem idx228 (g:FuncId) (fi ca:Array Value) (p:Pc→Bool) (q:Pc→Prop) (J:Hp→Prop) (b:Nat) (hJ:∀ G G',Grow G G'→J G→J G') (hr:SoundFn Tryz.prog (.func (.func g) fi ca) (TestS pcV p q J [])):Sound Tryz.prog 228 id (AllS pcE (.func (.func 191) #[] #[bptr b]) (fun xs=>I (idxP p xs 0)) q J [⟨b,false, .cells [.func (.func g) fi ca] 179⟩]):=by
 refine ⟨fun args ls v ns G G' hg h=>?_,fun args ls G Wd hsub hls hnd hpre=>?_⟩
 ·obtain ⟨h0,w,xs,h1,h2,h3⟩:=h;exact ⟨h0,w,xs,h1,h2.grow hg,h3⟩
 obtain ⟨rfl,hj,w,l,rfl,⟨a,n,c,rfl,hl,hn⟩,hq⟩:=hpre
 refine st_sound (Tab.nil _) comp228 (svs:=[.v (.slice a n c), .v (.func (.func 191) #[] #[bptr b])]) (obs:=[.cells (.named b) [.val (.func (.func g) fi ca)] 179]) (by simp) hsub hls hnd (Nat.le_of_ble_eq_true rfl) ?_ ?_ ?_
 ·exact ⟨rfl,trivial,rfl,trivial,trivial⟩
 ·exact ⟨⟨_,rfl,relL_vals _ [.func (.func g) fi ca],(by intro c hc;simp at hc;subst hc;trivial)⟩,trivial⟩
 ·have hlen:=hl.len
  (conv=>whnf)
  refine LoopP.of { α:=Nat,fr:=fun x=>[(0, .v (.slice a n c)),(1, .v (.func (.func 191) #[] #[bptr b])),(7, .v (I n)),(8, .v (I x))],H:=fun _=>[(0, .cells (.named b) [.val (.func (.func g) fi ca)] 179)],ok:=fun i _=>i≤l.length∧idxP p (l.drop i) i = idxP p l 0,m:=fun x=>l.length - x }
   0 (HeadP.of [] ⟨rfl,rfl,rfl,rfl,trivial⟩ ⟨rfl,trivial⟩) ⟨Nat.zero_le _,rfl⟩ (fun _=>⟨rfl,rfl⟩) (fun (i:Nat) G' hG hx=>W.mk ?_)
  obtain ⟨hi,hx⟩:=hx
  replace hl:=SlR.grow (G:=G) (G':=G') (fun _ _ h=>h) hl hG
  replace hj:=hJ _ _ hG hj
  (conv=>whnf)
  refine IteP.mk (fun hlt=>W.mk ?_) (fun hge=>W.mk ?_)<;>(conv=>whnf)
  ·have hlt:i < l.length:=by omega
   have hc:=hl.el hlt
   have hqi:=hq _ (List.getElem_mem hlt)
   rw [List.drop_eq_getElem_cons hlt,idxP] at hx
   repeat' (first | (refine ob ?_ ?_;(first | trivial | omega | (simp only [inR];omega) | exact ble (by rfl) | exact SlR.some ‹_› (by omega));(conv=>whnf)) | (first | (refine ra ‹_› (by rfl) ?_;(conv=>whnf)) | (refine rb ‹_› (by rfl) ?_;(conv=>whnf)) | (refine rc ‹_› (by rfl) ?_;(conv=>whnf)) | (refine rd ‹_› (by rfl) ?_;(conv=>whnf))))
   refine CallvP.fn _ (SoundFn.of body191 (not191 g fi ca p q J b hr)) (W.mk ?_)
   (conv=>whnf)
   refine StP.mk ⟨[(0,⟨b,false, .cells [.func (.func g) fi ca] 179⟩)],⟨⟨_,rfl,rfl⟩,trivial⟩,(by show ([0]:List Nat).Nodup;decide),⟨rfl,hj,l[i],rfl,hqi⟩,fun v ns G3 hg3 hpost=>W.mk ?_⟩
   obtain ⟨rfl,y,q1,rfl⟩:=hpost
   have hxy:=inj134 _ y (List.cons.inj q1).1
   subst hxy
   (conv=>whnf)
   refine ForkP.mk (fun hm=>W.mk ?_) (fun hm=>W.mk ?_)<;>(conv=>whnf)
   ·refine FinS.mk ⟨[],⟨.cells [.func (.func g) fi ca] 179,⟨_,rfl,rfl⟩,trivial,rfl,rfl⟩,rfl,_,l,rfl,⟨a,n,c,rfl,SlR.grow (G:=G') (G':=G3) (fun _ _ h=>h) hl hg3,hn⟩, ?_⟩
    rw [if_neg (by simpa using hm)] at hx
    show I (i:Int) = I (idxP p l 0);rw [← hx]
   ·(refine ob ?_ ?_;(first | trivial | omega | (simp only [inR];omega) | exact ble (by rfl) | exact SlR.some ‹_› (by omega));(conv=>whnf))
    rw [if_pos (by simpa using hm)] at hx
    exact RoundP.of (i + 1) (HeadP.of [] ⟨rfl,rfl,rfl,rfl,trivial⟩ ⟨rfl,trivial⟩) ⟨hlt,hx⟩ (by simp only;omega)
  ·have:i = l.length:=by omega
   subst this
   rw [List.drop_length] at hx
   refine FinS.mk ⟨[],⟨.cells [.func (.func g) fi ca] 179,⟨_,rfl,rfl⟩,trivial,rfl,rfl⟩,rfl,_,l,rfl,⟨a,n,c,rfl,hl,hn⟩, ?_⟩
   show I (-1) = I (idxP p l 0);rw [← hx];rfl
theorem con190 (g:FuncId) (fi ca:Array Value) (p:Pc→Bool) (q:Pc→Prop) (J:Hp→Prop) (b:Nat) (hJ:∀ G G',Grow G G'→J G→J G') (hr:SoundFn Tryz.prog (.func (.func g) fi ca) (TestS pcV p q J [])):Sound Tryz.prog 190 id (AllS pcE (.func (.func 191) #[] #[bptr b]) (fun xs=>.bool (!(xs.all p))) q J [⟨b,false, .cells [.func (.func g) fi ca] 179⟩]):=by
 refine ⟨fun args ls v ns G G' hg h=>?_,fun args ls G Wd hsub hls hnd hpre=>?_⟩
 ·obtain ⟨h0,w,xs,h1,h2,h3⟩:=h;exact ⟨h0,w,xs,h1,h2.grow hg,h3⟩
 obtain ⟨rfl,hj,w,l,rfl,⟨a,n,c,rfl,hl,hn⟩,hq⟩:=hpre
 refine st_sound (Tab.cons 228 _ (idx228 g fi ca p q J b hJ hr) body228 (Tab.nil _)) comp190 (svs:=[.v (.slice a n c), .v (.func (.func 191) #[] #[bptr b])]) (obs:=[.cells (.named b) [.val (.func (.func g) fi ca)] 179]) (by simp) hsub hls hnd (Nat.le_of_ble_eq_true rfl) ?_ ?_ ?_
 ·exact ⟨rfl,trivial,rfl,trivial,trivial⟩
 ·exact ⟨⟨_,rfl,relL_vals _ [.func (.func g) fi ca],(by intro c hc;simp at hc;subst hc;trivial)⟩,trivial⟩
 ·(conv=>whnf)
  refine StP.mk ⟨[(0,⟨b,false, .cells [.func (.func g) fi ca] 179⟩)],⟨⟨_,rfl,rfl⟩,trivial⟩,(by show ([0]:List Nat).Nodup;decide),⟨rfl,hj,_,l,rfl,⟨a,n,c,rfl,hl,hn⟩,hq⟩,fun v ns G3 hg3 hpost=>W.mk ?_⟩
  obtain ⟨rfl,w',l',q1,q2,rfl⟩:=hpost
  simp only [List.cons.injEq,and_true] at q1
  subst q1
  have:l' = l:=q2.uniq (SlV.grow hg3 ⟨a,n,c,rfl,hl,hn⟩)
  subst this
  have hall:=idxP_all p l' 0
  (conv=>whnf)
  refine IteP.mk (fun hq=>W.mk ?_) (fun hq=>W.mk ?_)<;>(conv=>whnf)<;>refine FinS.mk ⟨[],⟨.cells [.func (.func g) fi ca] 179,⟨_,rfl,rfl⟩,trivial,rfl,rfl⟩,rfl,_,l',rfl,q2, ?_⟩<;>show Value.bool _ = Value.bool (!(l'.all p))<;>rw [← hall]<;>simp [*]
theorem all134 (g:FuncId) (fi ca:Array Value) (p:Pc→Bool) (q:Pc→Prop) (J:Hp→Prop) (hJ:∀ G G',Grow G G'→J G→J G') (hr:SoundFn Tryz.prog (.func (.func g) fi ca) (TestS pcV p q J [])):Sound Tryz.prog 134 id (AllS pcE (.func (.func g) fi ca) (fun xs=>.bool (xs.all p)) q J []):=by
 refine ⟨fun args ls v ns G G' hg h=>?_,fun args ls G Wd hsub hls hnd hpre=>?_⟩
 ·obtain ⟨h0,w,xs,h1,h2,h3⟩:=h;exact ⟨h0,w,xs,h1,h2.grow hg,h3⟩
 obtain ⟨rfl,hj,w,l,rfl,⟨a,n,c,rfl,hl,hn⟩,hq⟩:=hpre
 refine st_sound (Tab.nil _) comp134 (svs:=[.v (.slice a n c), .v (.func (.func g) fi ca)]) (obs:=[]) (by simp) hsub hls hnd (Nat.le_of_ble_eq_true rfl) ?_ ?_ ?_
 ·exact ⟨rfl,trivial,rfl,trivial,trivial⟩
 ·exact trivial
 ·(conv=>whnf)
  refine NameP.mk (fun b=>W.mk ?_)
  (conv=>whnf)
  refine CallN.mk ⟨_,con190 g fi ca p q J b hJ hr,body190,W.mk ?_⟩
  (conv=>whnf)
  refine StP.mk ⟨[(1,⟨b,false, .cells [.func (.func g) fi ca] 179⟩)],⟨⟨_,rfl,rfl⟩,trivial⟩,(by show ([1]:List Nat).Nodup;decide),⟨rfl,hj,_,l,rfl,⟨a,n,c,rfl,hl,hn⟩,hq⟩,fun v ns G3 hg3 hpost=>W.mk ?_⟩
  obtain ⟨rfl,w',l',q1,q2,rfl⟩:=hpost
  simp only [List.cons.injEq,and_true] at q1
  subst q1
  have:l' = l:=q2.uniq (SlV.grow hg3 ⟨a,n,c,rfl,hl,hn⟩)
  subst this
  (conv=>whnf)
  refine ForkP.mk (fun hm=>W.mk ?_) (fun hm=>W.mk ?_)<;>(conv=>whnf)<;>refine FinS.mk ⟨[],rfl,rfl,_,l',rfl,q2, ?_⟩<;>(refine congrArg Value.bool ?_;simpa using hm)

/-! ### 134 -/
theorem inj134m:∀ x y:Pc,(pcV) x = (pcV) y→x = y:=fun x y h=>by cases x;cases y;simp [pcV] at h;simp [h]
theorem not191m (g:FuncId) (fi ca:Array Value) (p:Pc→Bool) (q:Pc→Prop) (J:Hp→Prop) (bn:Nat) (mb:Nat) (b:Nat) (hr:SoundFn Tryz.prog (.func (.func g) fi ca) (TestS pcV p q J [⟨bn,false, .cells [.map (some mb)] 176⟩])):Sound Tryz.prog 191 (fun a=>(#[]:Array Value).toList++a++(#[bptr b]:Array Value).toList) (TestS pcV (fun x=>!p x) q J [⟨bn,false, .cells [.map (some mb)] 176⟩,⟨b,false, .cells [.func (.func g) fi ca] 179⟩]):=by
 refine ⟨fun args ls v ns G G' hg h=>h,fun args ls G Wd hsub hls hnd hpre=>?_⟩
 obtain ⟨rfl,hj,x,rfl,hx⟩:=hpre
 refine st_sound (Tab.nil _) comp191 (svs:=[.agg [.val (I x.n), .val (I x.of), .val (I x.fr), .val (I x.to), .val (x.sl)], .c (.ptr 1 0)]) (obs:=[.cells (.named bn) [.val (.map (some mb))] 176, .cells (.named b) [.val (.func (.func g) fi ca)] 179]) (by simp) hsub hls hnd (Nat.le_of_ble_eq_true rfl) ?_ ?_ ?_
 ·exact ⟨⟨[I x.n,I x.of,I x.fr,I x.to,x.sl],rfl,relL_vals _ [I x.n,I x.of,I x.fr,I x.to,x.sl]⟩,(by intro c hc;simp at hc;rcases hc with rfl | rfl | rfl | rfl | rfl<;>trivial),⟨_,rfl,rfl⟩,(Nat.le_of_ble_eq_true rfl:1 < 2),trivial⟩
 ·exact ⟨⟨_,rfl,relL_vals _ [.map (some mb)],(by intro c hc;simp at hc;subst hc;trivial)⟩,⟨_,rfl,relL_vals _ [.func (.func g) fi ca],(by intro c hc;simp at hc;subst hc;trivial)⟩,trivial⟩
 ·(conv=>whnf)
  refine CallvP.fn _ hr (W.mk ?_)
  (conv=>whnf)
  refine StP.mk ⟨[(0,⟨bn,false, .cells [.map (some mb)] 176⟩)],⟨⟨_,rfl,rfl⟩,trivial⟩,(by show ([0]:List Nat).Nodup;decide),⟨rfl,hj,x,rfl,hx⟩,fun v ns G3 hg3 hpost=>W.mk ?_⟩
  obtain ⟨rfl,y,q1,rfl⟩:=hpost
  have hxy:=inj134m x y (List.cons.inj q1).1
  subst hxy
  (conv=>whnf)
  refine ForkP.mk (fun hm=>W.mk ?_) (fun hm=>W.mk ?_)<;>(conv=>whnf)<;>refine FinS.mk ⟨[],⟨.cells [.map (some mb)] 176,⟨_,rfl,rfl⟩,trivial,rfl, .cells [.func (.func g) fi ca] 179,⟨_,rfl,rfl⟩,trivial,rfl,rfl⟩,rfl,x,rfl, ?_⟩<;>(show Value.bool _ = Value.bool (!p x);rw [hm];rfl)
theorem idx228m (g:FuncId) (fi ca:Array Value) (p:Pc→Bool) (q:Pc→Prop) (J:Hp→Prop) (bn:Nat) (mb:Nat) (b:Nat) (hJ:∀ G G',Grow G G'→J G→J G') (hr:SoundFn Tryz.prog (.func (.func g) fi ca) (TestS pcV p q J [⟨bn,false, .cells [.map (some mb)] 176⟩])):Sound Tryz.prog 228 id (AllS pcE (.func (.func 191) #[] #[bptr b]) (fun xs=>I (idxP p xs 0)) q J [⟨bn,false, .cells [.map (some mb)] 176⟩,⟨b,false, .cells [.func (.func g) fi ca] 179⟩]):=by
 refine ⟨fun args ls v ns G G' hg h=>?_,fun args ls G Wd hsub hls hnd hpre=>?_⟩
 ·obtain ⟨h0,w,xs,h1,h2,h3⟩:=h;exact ⟨h0,w,xs,h1,h2.grow hg,h3⟩
 obtain ⟨rfl,hj,w,l,rfl,⟨a,n,c,rfl,hl,hn⟩,hq⟩:=hpre
 refine st_sound (Tab.nil _) comp228 (svs:=[.v (.slice a n c), .v (.func (.func 191) #[] #[bptr b])]) (obs:=[.cells (.named bn) [.val (.map (some mb))] 176, .cells (.named b) [.val (.func (.func g) fi ca)] 179]) (by simp) hsub hls hnd (Nat.le_of_ble_eq_true rfl) ?_ ?_ ?_
 ·exact ⟨rfl,trivial,rfl,trivial,trivial⟩
 ·exact ⟨⟨_,rfl,relL_vals _ [.map (some mb)],(by intro c hc;simp at hc;subst hc;trivial)⟩,⟨_,rfl,relL_vals _ [.func (.func g) fi ca],(by intro c hc;simp at hc;subst hc;trivial)⟩,trivial⟩
 ·have hlen:=hl.len
  (conv=>whnf)
  refine LoopP.of { α:=Nat,fr:=fun x=>[(0, .v (.slice a n c)),(1, .v (.func (.func 191) #[] #[bptr b])),(7, .v (I n)),(8, .v (I x))],H:=fun _=>[(0, .cells (.named bn) [.val (.map (some mb))] 176),(1, .cells (.named b) [.val (.func (.func g) fi ca)] 179)],ok:=fun i _=>i≤l.length∧idxP p (l.drop i) i = idxP p l 0,m:=fun x=>l.length - x }
   0 (HeadP.of [] ⟨rfl,rfl,rfl,rfl,trivial⟩ ⟨rfl,rfl,trivial⟩) ⟨Nat.zero_le _,rfl⟩ (fun _=>⟨rfl,rfl⟩) (fun (i:Nat) G' hG hx=>W.mk ?_)
  obtain ⟨hi,hx⟩:=hx
  replace hl:=SlR.grow (G:=G) (G':=G') (fun _ _ h=>h) hl hG
  replace hj:=hJ _ _ hG hj
  (conv=>whnf)
  refine IteP.mk (fun hlt=>W.mk ?_) (fun hge=>W.mk ?_)<;>(conv=>whnf)
  ·have hlt:i < l.length:=by omega
   have hc:=hl.el hlt
   have hqi:=hq _ (List.getElem_mem hlt)
   rw [List.drop_eq_getElem_cons hlt,idxP] at hx
   repeat' (first | (refine ob ?_ ?_;(first | trivial | omega | (simp only [inR];omega) | exact ble (by rfl) | exact SlR.some ‹_› (by omega));(conv=>whnf)) | (first | (refine ra ‹_› (by rfl) ?_;(conv=>whnf)) | (refine rb ‹_› (by rfl) ?_;(conv=>whnf)) | (refine rc ‹_› (by rfl) ?_;(conv=>whnf)) | (refine rd ‹_› (by rfl) ?_;(conv=>whnf))))
   refine CallvP.fn _ (SoundFn.of body191 (not191m g fi ca p q J bn mb b hr)) (W.mk ?_)
   (conv=>whnf)
   refine StP.mk ⟨[(0,⟨bn,false, .cells [.map (some mb)] 176⟩),(1,⟨b,false, .cells [.func (.func g) fi ca] 179⟩)],⟨⟨_,rfl,rfl⟩,⟨_,rfl,rfl⟩,trivial⟩,(by show ([0,1]:List Nat).Nodup;decide),⟨rfl,hj,l[i],rfl,hqi⟩,fun v ns G3 hg3 hpost=>W.mk ?_⟩
   obtain ⟨rfl,y,q1,rfl⟩:=hpost
   have hxy:=inj134m _ y (List.cons.inj q1).1
   subst hxy
   (conv=>whnf)
   refine ForkP.mk (fun hm=>W.mk ?_) (fun hm=>W.mk ?_)<;>(conv=>whnf)
   ·refine FinS.mk ⟨[],⟨.cells [.map (some mb)] 176,⟨_,rfl,rfl⟩,trivial,rfl, .cells [.func (.func g) fi ca] 179,⟨_,rfl,rfl⟩,trivial,rfl,rfl⟩,rfl,_,l,rfl,⟨a,n,c,rfl,SlR.grow (G:=G') (G':=G3) (fun _ _ h=>h) hl hg3,hn⟩, ?_⟩
    rw [if_neg (by simpa using hm)] at hx
    show I (i:Int) = I (idxP p l 0);rw [← hx]
   ·(refine ob ?_ ?_;(first | trivial | omega | (simp only [inR];omega) | exact ble (by rfl) | exact SlR.some ‹_› (by omega));(conv=>whnf))
    rw [if_pos (by simpa using hm)] at hx
    exact RoundP.of (i + 1) (HeadP.of [] ⟨rfl,rfl,rfl,rfl,trivial⟩ ⟨rfl,rfl,trivial⟩) ⟨hlt,hx⟩ (by simp only;omega)
  ·have:i = l.length:=by omega
   subst this
   rw [List.drop_length] at hx
   refine FinS.mk ⟨[],⟨.cells [.map (some mb)] 176,⟨_,rfl,rfl⟩,trivial,rfl, .cells [.func (.func g) fi ca] 179,⟨_,rfl,rfl⟩,trivial,rfl,rfl⟩,rfl,_,l,rfl,⟨a,n,c,rfl,hl,hn⟩, ?_⟩
   show I (-1) = I (idxP p l 0);rw [← hx];rfl
theorem con190m (g:FuncId) (fi ca:Array Value) (p:Pc→Bool) (q:Pc→Prop) (J:Hp→Prop) (bn:Nat) (mb:Nat) (b:Nat) (hJ:∀ G G',Grow G G'→J G→J G') (hr:SoundFn Tryz.prog (.func (.func g) fi ca) (TestS pcV p q J [⟨bn,false, .cells [.map (some mb)] 176⟩])):Sound Tryz.prog 190 id (AllS pcE (.func (.func 191) #[] #[bptr b]) (fun xs=>.bool (!(xs.all p))) q J [⟨bn,false, .cells [.map (some mb)] 176⟩,⟨b,false, .cells [.func (.func g) fi ca] 179⟩]):=by
 refine ⟨fun args ls v ns G G' hg h=>?_,fun args ls G Wd hsub hls hnd hpre=>?_⟩
 ·obtain ⟨h0,w,xs,h1,h2,h3⟩:=h;exact ⟨h0,w,xs,h1,h2.grow hg,h3⟩
 obtain ⟨rfl,hj,w,l,rfl,⟨a,n,c,rfl,hl,hn⟩,hq⟩:=hpre
 refine st_sound (Tab.cons 228 _ (idx228m g fi ca p q J bn mb b hJ hr) body228 (Tab.nil _)) comp190 (svs:=[.v (.slice a n c), .v (.func (.func 191) #[] #[bptr b])]) (obs:=[.cells (.named bn) [.val (.map (some mb))] 176, .cells (.named b) [.val (.func (.func g) fi ca)] 179]) (by simp) hsub hls hnd (Nat.le_of_ble_eq_true rfl) ?_ ?_ ?_
 ·exact ⟨rfl,trivial,rfl,trivial,trivial⟩
 ·exact ⟨⟨_,rfl,relL_vals _ [.map (some mb)],(by intro c hc;simp at hc;subst hc;trivial)⟩,⟨_,rfl,relL_vals _ [.func (.func g) fi ca],(by intro c hc;simp at hc;subst hc;trivial)⟩,trivial⟩
 ·(conv=>whnf)
  refine StP.mk ⟨[(0,⟨bn,false, .cells [.map (some mb)] 176⟩),(1,⟨b,false, .cells [.func (.func g) fi ca] 179⟩)],⟨⟨_,rfl,rfl⟩,⟨_,rfl,rfl⟩,trivial⟩,(by show ([0,1]:List Nat).Nodup;decide),⟨rfl,hj,_,l,rfl,⟨a,n,c,rfl,hl,hn⟩,hq⟩,fun v ns G3 hg3 hpost=>W.mk ?_⟩
  obtain ⟨rfl,w',l',q1,q2,rfl⟩:=hpost
  simp only [List.cons.injEq,and_true] at q1
  subst q1
  have:l' = l:=q2.uniq (SlV.grow hg3 ⟨a,n,c,rfl,hl,hn⟩)
  subst this
  have hall:=idxP_all p l' 0
  (conv=>whnf)
  refine IteP.mk (fun hq=>W.mk ?_) (fun hq=>W.mk ?_)<;>(conv=>whnf)<;>refine FinS.mk ⟨[],⟨.cells [.map (some mb)] 176,⟨_,rfl,rfl⟩,trivial,rfl, .cells [.func (.func g) fi ca] 179,⟨_,rfl,rfl⟩,trivial,rfl,rfl⟩,rfl,_,l',rfl,q2, ?_⟩<;>show Value.bool _ = Value.bool (!(l'.all p))<;>rw [← hall]<;>simp [*]
theorem all134m (g:FuncId) (fi ca:Array Value) (p:Pc→Bool) (q:Pc→Prop) (J:Hp→Prop) (bn:Nat) (mb:Nat) (hJ:∀ G G',Grow G G'→J G→J G') (hr:SoundFn Tryz.prog (.func (.func g) fi ca) (TestS pcV p q J [⟨bn,false, .cells [.map (some mb)] 176⟩])):Sound Tryz.prog 134 id (AllS pcE (.func (.func g) fi ca) (fun xs=>.bool (xs.all p)) q J [⟨bn,false, .cells [.map (some mb)] 176⟩]):=by
 refine ⟨fun args ls v ns G G' hg h=>?_,fun args ls G Wd hsub hls hnd hpre=>?_⟩
 ·obtain ⟨h0,w,xs,h1,h2,h3⟩:=h;exact ⟨h0,w,xs,h1,h2.grow hg,h3⟩
 obtain ⟨rfl,hj,w,l,rfl,⟨a,n,c,rfl,hl,hn⟩,hq⟩:=hpre
 refine st_sound (Tab.nil _) comp134 (svs:=[.v (.slice a n c), .v (.func (.func g) fi ca)]) (obs:=[.cells (.named bn) [.val (.map (some mb))] 176]) (by simp) hsub hls hnd (Nat.le_of_ble_eq_true rfl) ?_ ?_ ?_
 ·exact ⟨rfl,trivial,rfl,trivial,trivial⟩
 ·exact ⟨⟨_,rfl,relL_vals _ [.map (some mb)],(by intro c hc;simp at hc;subst hc;trivial)⟩,trivial⟩
 ·(conv=>whnf)
  refine NameP.mk (fun b=>W.mk ?_)
  (conv=>whnf)
  refine CallN.mk ⟨_,con190m g fi ca p q J bn mb b hJ hr,body190,W.mk ?_⟩
  (conv=>whnf)
  refine StP.mk ⟨[(0,⟨bn,false, .cells [.map (some mb)] 176⟩),(1,⟨b,false, .cells [.func (.func g) fi ca] 179⟩)],⟨⟨_,rfl,rfl⟩,⟨_,rfl,rfl⟩,trivial⟩,(by show ([0,1]:List Nat).Nodup;decide),⟨rfl,hj,_,l,rfl,⟨a,n,c,rfl,hl,hn⟩,hq⟩,fun v ns G3 hg3 hpost=>W.mk ?_⟩
  obtain ⟨rfl,w',l',q1,q2,rfl⟩:=hpost
  simp only [List.cons.injEq,and_true] at q1
  subst q1
  have:l' = l:=q2.uniq (SlV.grow hg3 ⟨a,n,c,rfl,hl,hn⟩)
  subst this
  (conv=>whnf)
  refine ForkP.mk (fun hm=>W.mk ?_) (fun hm=>W.mk ?_)<;>(conv=>whnf)<;>refine FinS.mk ⟨[],⟨.cells [.map (some mb)] 176,⟨_,rfl,rfl⟩,trivial,rfl,rfl⟩,rfl,_,l',rfl,q2, ?_⟩<;>(refine congrArg Value.bool ?_;simpa using hm)

/-! ### 134 -/
theorem inj134w:∀ x y:Pc,(pcV) x = (pcV) y→x = y:=fun x y h=>by cases x;cases y;simp [pcV] at h;simp [h]
theorem not191w (g:FuncId) (fi ca:Array Value) (p:Pc→Bool) (q:Pc→Prop) (J:Hp→Prop) (bm:Nat) (pv:Value) (w:Value) (b:Nat) (hr:SoundFn Tryz.prog (.func (.func g) fi ca) (TestS pcV p q J [⟨bm,false, .cells [w,pv] 38⟩])):Sound Tryz.prog 191 (fun a=>(#[]:Array Value).toList++a++(#[bptr b]:Array Value).toList) (TestS pcV (fun x=>!p x) q J [⟨bm,false, .cells [w,pv] 38⟩,⟨b,false, .cells [.func (.func g) fi ca] 179⟩]):=by
 refine ⟨fun args ls v ns G G' hg h=>h,fun args ls G Wd hsub hls hnd hpre=>?_⟩
 obtain ⟨rfl,hj,x,rfl,hx⟩:=hpre
 refine st_sound (Tab.nil _) comp191 (svs:=[.agg [.val (I x.n), .val (I x.of), .val (I x.fr), .val (I x.to), .val (x.sl)], .c (.ptr 1 0)]) (obs:=[.cells (.named bm) [.val (w), .val (pv)] 38, .cells (.named b) [.val (.func (.func g) fi ca)] 179]) (by simp) hsub hls hnd (Nat.le_of_ble_eq_true rfl) ?_ ?_ ?_
 ·exact ⟨⟨[I x.n,I x.of,I x.fr,I x.to,x.sl],rfl,relL_vals _ [I x.n,I x.of,I x.fr,I x.to,x.sl]⟩,(by intro c hc;simp at hc;rcases hc with rfl | rfl | rfl | rfl | rfl<;>trivial),⟨_,rfl,rfl⟩,(Nat.le_of_ble_eq_true rfl:1 < 2),trivial⟩
 ·exact ⟨⟨_,rfl,relL_vals _ [w,pv],(by intro c hc;simp at hc;rcases hc with rfl | rfl<;>trivial)⟩,⟨_,rfl,relL_vals _ [.func (.func g) fi ca],(by intro c hc;simp at hc;subst hc;trivial)⟩,trivial⟩
 ·(conv=>whnf)
  refine CallvP.fn _ hr (W.mk ?_)
  (conv=>whnf)
  refine StP.mk ⟨[(0,⟨bm,false, .cells [w,pv] 38⟩)],⟨⟨_,rfl,rfl⟩,trivial⟩,(by show ([0]:List Nat).Nodup;decide),⟨rfl,hj,x,rfl,hx⟩,fun v ns G3 hg3 hpost=>W.mk ?_⟩
  obtain ⟨rfl,y,q1,rfl⟩:=hpost
  have hxy:=inj134w x y (List.cons.inj q1).1
  subst hxy
  (conv=>whnf)
  refine ForkP.mk (fun hm=>W.mk ?_) (fun hm=>W.mk ?_)<;>(conv=>whnf)<;>refine FinS.mk ⟨[],⟨.cells [w,pv] 38,⟨_,rfl,rfl⟩,trivial,rfl, .cells [.func (.func g) fi ca] 179,⟨_,rfl,rfl⟩,trivial,rfl,rfl⟩,rfl,x,rfl, ?_⟩<;>(show Value.bool _ = Value.bool (!p x);rw [hm];rfl)
theorem idx228w (g:FuncId) (fi ca:Array Value) (p:Pc→Bool) (q:Pc→Prop) (J:Hp→Prop) (bm:Nat) (pv:Value) (w:Value) (b:Nat) (hJ:∀ G G',Grow G G'→J G→J G') (hr:SoundFn Tryz.prog (.func (.func g) fi ca) (TestS pcV p q J [⟨bm,false, .cells [w,pv] 38⟩])):Sound Tryz.prog 228 id (AllS pcE (.func (.func 191) #[] #[bptr b]) (fun xs=>I (idxP p xs 0)) q J [⟨bm,false, .cells [w,pv] 38⟩,⟨b,false, .cells [.func (.func g) fi ca] 179⟩]):=by
 refine ⟨fun args ls v ns G G' hg h=>?_,fun args ls G Wd hsub hls hnd hpre=>?_⟩
 ·obtain ⟨h0,w,xs,h1,h2,h3⟩:=h;exact ⟨h0,w,xs,h1,h2.grow hg,h3⟩
 obtain ⟨rfl,hj,w,l,rfl,⟨a,n,c,rfl,hl,hn⟩,hq⟩:=hpre
 refine st_sound (Tab.nil _) comp228 (svs:=[.v (.slice a n c), .v (.func (.func 191) #[] #[bptr b])]) (obs:=[.cells (.named bm) [.val (w), .val (pv)] 38, .cells (.named b) [.val (.func (.func g) fi ca)] 179]) (by simp) hsub hls hnd (Nat.le_of_ble_eq_true rfl) ?_ ?_ ?_
 ·exact ⟨rfl,trivial,rfl,trivial,trivial⟩
 ·exact ⟨⟨_,rfl,relL_vals _ [w,pv],(by intro c hc;simp at hc;rcases hc with rfl | rfl<;>trivial)⟩,⟨_,rfl,relL_vals _ [.func (.func g) fi ca],(by intro c hc;simp at hc;subst hc;trivial)⟩,trivial⟩
 ·have hlen:=hl.len
  (conv=>whnf)
  refine LoopP.of { α:=Nat,fr:=fun x=>[(0, .v (.slice a n c)),(1, .v (.func (.func 191) #[] #[bptr b])),(7, .v (I n)),(8, .v (I x))],H:=fun _=>[(0, .cells (.named bm) [.val (w), .val (pv)] 38),(1, .cells (.named b) [.val (.func (.func g) fi ca)] 179)],ok:=fun i _=>i≤l.length∧idxP p (l.drop i) i = idxP p l 0,m:=fun x=>l.length - x }
   0 (HeadP.of [] ⟨rfl,rfl,rfl,rfl,trivial⟩ ⟨rfl,rfl,trivial⟩) ⟨Nat.zero_le _,rfl⟩ (fun _=>⟨rfl,rfl⟩) (fun (i:Nat) G' hG hx=>W.mk ?_)
  obtain ⟨hi,hx⟩:=hx
  replace hl:=SlR.grow (G:=G) (G':=G') (fun _ _ h=>h) hl hG
  replace hj:=hJ _ _ hG hj
  (conv=>whnf)
  refine IteP.mk (fun hlt=>W.mk ?_) (fun hge=>W.mk ?_)<;>(conv=>whnf)
  ·have hlt:i < l.length:=by omega
   have hc:=hl.el hlt
   have hqi:=hq _ (List.getElem_mem hlt)
   rw [List.drop_eq_getElem_cons hlt,idxP] at hx
   repeat' (first | (refine ob ?_ ?_;(first | trivial | omega | (simp only [inR];omega) | exact ble (by rfl) | exact SlR.some ‹_› (by omega));(conv=>whnf)) | (first | (refine ra ‹_› (by rfl) ?_;(conv=>whnf)) | (refine rb ‹_› (by rfl) ?_;(conv=>whnf)) | (refine rc ‹_› (by rfl) ?_;(conv=>whnf)) | (refine rd ‹_› (by rfl) ?_;(conv=>whnf))))
   refine CallvP.fn _ (SoundFn.of body191 (not191w g fi ca p q J bm pv w b hr)) (W.mk ?_)
   (conv=>whnf)
   refine StP.mk ⟨[(0,⟨bm,false, .cells [w,pv] 38⟩),(1,⟨b,false, .cells [.func (.func g) fi ca] 179⟩)],⟨⟨_,rfl,rfl⟩,⟨_,rfl,rfl⟩,trivial⟩,(by show ([0,1]:List Nat).Nodup;decide),⟨rfl,hj,l[i],rfl,hqi⟩,fun v ns G3 hg3 hpost=>W.mk ?_⟩
   obtain ⟨rfl,y,q1,rfl⟩:=hpost
   have hxy:=inj134w _ y (List.cons.inj q1).1
   subst hxy
   (conv=>whnf)
   refine ForkP.mk (fun hm=>W.mk ?_) (fun hm=>W.mk ?_)<;>(conv=>whnf)
   ·refine FinS.mk ⟨[],⟨.cells [w,pv] 38,⟨_,rfl,rfl⟩,trivial,rfl, .cells [.func (.func g) fi ca] 179,⟨_,rfl,rfl⟩,trivial,rfl,rfl⟩,rfl,_,l,rfl,⟨a,n,c,rfl,SlR.grow (G:=G') (G':=G3) (fun _ _ h=>h) hl hg3,hn⟩, ?_⟩
    rw [if_neg (by simpa using hm)] at hx
    show I (i:Int) = I (idxP p l 0);rw [← hx]
   ·(refine ob ?_ ?_;(first | trivial | omega | (simp only [inR];omega) | exact ble (by rfl) | exact SlR.some ‹_› (by omega));(conv=>whnf))
    rw [if_pos (by simpa using hm)] at hx
    exact RoundP.of (i + 1) (HeadP.of [] ⟨rfl,rfl,rfl,rfl,trivial⟩ ⟨rfl,rfl,trivial⟩) ⟨hlt,hx⟩ (by simp only;omega)
  ·have:i = l.length:=by omega
   subst this
   rw [List.drop_length] at hx
   refine FinS.mk ⟨[],⟨.cells [w,pv] 38,⟨_,rfl,rfl⟩,trivial,rfl, .cells [.func (.func g) fi ca] 179,⟨_,rfl,rfl⟩,trivial,rfl,rfl⟩,rfl,_,l,rfl,⟨a,n,c,rfl,hl,hn⟩, ?_⟩
   show I (-1) = I (idxP p l 0);rw [← hx];rfl
theorem con190w (g:FuncId) (fi ca:Array Value) (p:Pc→Bool) (q:Pc→Prop) (J:Hp→Prop) (bm:Nat) (pv:Value) (w:Value) (b:Nat) (hJ:∀ G G',Grow G G'→J G→J G') (hr:SoundFn Tryz.prog (.func (.func g) fi ca) (TestS pcV p q J [⟨bm,false, .cells [w,pv] 38⟩])):Sound Tryz.prog 190 id (AllS pcE (.func (.func 191) #[] #[bptr b]) (fun xs=>.bool (!(xs.all p))) q J [⟨bm,false, .cells [w,pv] 38⟩,⟨b,false, .cells [.func (.func g) fi ca] 179⟩]):=by
 refine ⟨fun args ls v ns G G' hg h=>?_,fun args ls G Wd hsub hls hnd hpre=>?_⟩
 ·obtain ⟨h0,w,xs,h1,h2,h3⟩:=h;exact ⟨h0,w,xs,h1,h2.grow hg,h3⟩
 obtain ⟨rfl,hj,w,l,rfl,⟨a,n,c,rfl,hl,hn⟩,hq⟩:=hpre
 refine st_sound (Tab.cons 228 _ (idx228w g fi ca p q J bm pv w b hJ hr) body228 (Tab.nil _)) comp190 (svs:=[.v (.slice a n c), .v (.func (.func 191) #[] #[bptr b])]) (obs:=[.cells (.named bm) [.val (w), .val (pv)] 38, .cells (.named b) [.val (.func (.func g) fi ca)] 179]) (by simp) hsub hls hnd (Nat.le_of_ble_eq_true rfl) ?_ ?_ ?_
 ·exact ⟨rfl,trivial,rfl,trivial,trivial⟩
 ·exact ⟨⟨_,rfl,relL_vals _ [w,pv],(by intro c hc;simp at hc;rcases hc with rfl | rfl<;>trivial)⟩,⟨_,rfl,relL_vals _ [.func (.func g) fi ca],(by intro c hc;simp at hc;subst hc;trivial)⟩,trivial⟩
 ·(conv=>whnf)
  refine StP.mk ⟨[(0,⟨bm,false, .cells [w,pv] 38⟩),(1,⟨b,false, .cells [.func (.func g) fi ca] 179⟩)],⟨⟨_,rfl,rfl⟩,⟨_,rfl,rfl⟩,trivial⟩,(by show ([0,1]:List Nat).Nodup;decide),⟨rfl,hj,_,l,rfl,⟨a,n,c,rfl,hl,hn⟩,hq⟩,fun v ns G3 hg3 hpost=>W.mk ?_⟩
  obtain ⟨rfl,w',l',q1,q2,rfl⟩:=hpost
  simp only [List.cons.injEq,and_true] at q1
  subst q1
  have:l' = l:=q2.uniq (SlV.grow hg3 ⟨a,n,c,rfl,hl,hn⟩)
  subst this
  have hall:=idxP_all p l' 0
  (conv=>whnf)
  refine IteP.mk (fun hq=>W.mk ?_) (fun hq=>W.mk ?_)<;>(conv=>whnf)<;>refine FinS.mk ⟨[],⟨.cells [w,pv] 38,⟨_,rfl,rfl⟩,trivial,rfl, .cells [.func (.func g) fi ca] 179,⟨_,rfl,rfl⟩,trivial,rfl,rfl⟩,rfl,_,l',rfl,q2, ?_⟩<;>show Value.bool _ = Value.bool (!(l'.all p))<;>rw [← hall]<;>simp [*]
theorem all134w (g:FuncId) (fi ca:Array Value) (p:Pc→Bool) (q:Pc→Prop) (J:Hp→Prop) (bm:Nat) (pv:Value) (w:Value) (hJ:∀ G G',Grow G G'→J G→J G') (hr:SoundFn Tryz.prog (.func (.func g) fi ca) (TestS pcV p q J [⟨bm,false, .cells [w,pv] 38⟩])):Sound Tryz.prog 134 id (AllS pcE (.func (.func g) fi ca) (fun xs=>.bool (xs.all p)) q J [⟨bm,false, .cells [w,pv] 38⟩]):=by
 refine ⟨fun args ls v ns G G' hg h=>?_,fun args ls G Wd hsub hls hnd hpre=>?_⟩
 ·obtain ⟨h0,w,xs,h1,h2,h3⟩:=h;exact ⟨h0,w,xs,h1,h2.grow hg,h3⟩
 obtain ⟨rfl,hj,w,l,rfl,⟨a,n,c,rfl,hl,hn⟩,hq⟩:=hpre
 refine st_sound (Tab.nil _) comp134 (svs:=[.v (.slice a n c), .v (.func (.func g) fi ca)]) (obs:=[.cells (.named bm) [.val (w), .val (pv)] 38]) (by simp) hsub hls hnd (Nat.le_of_ble_eq_true rfl) ?_ ?_ ?_
 ·exact ⟨rfl,trivial,rfl,trivial,trivial⟩
 ·exact ⟨⟨_,rfl,relL_vals _ [w,pv],(by intro c hc;simp at hc;rcases hc with rfl | rfl<;>trivial)⟩,trivial⟩
 ·(conv=>whnf)
  refine NameP.mk (fun b=>W.mk ?_)
  (conv=>whnf)
  refine CallN.mk ⟨_,con190w g fi ca p q J bm pv w b hJ hr,body190,W.mk ?_⟩
  (conv=>whnf)
  refine StP.mk ⟨[(0,⟨bm,false, .cells [w,pv] 38⟩),(1,⟨b,false, .cells [.func (.func g) fi ca] 179⟩)],⟨⟨_,rfl,rfl⟩,⟨_,rfl,rfl⟩,trivial⟩,(by show ([0,1]:List Nat).Nodup;decide),⟨rfl,hj,_,l,rfl,⟨a,n,c,rfl,hl,hn⟩,hq⟩,fun v ns G3 hg3 hpost=>W.mk ?_⟩
  obtain ⟨rfl,w',l',q1,q2,rfl⟩:=hpost
  simp only [List.cons.injEq,and_true] at q1
  subst q1
  have:l' = l:=q2.uniq (SlV.grow hg3 ⟨a,n,c,rfl,hl,hn⟩)
  subst this
  (conv=>whnf)
  refine ForkP.mk (fun hm=>W.mk ?_) (fun hm=>W.mk ?_)<;>(conv=>whnf)<;>refine FinS.mk ⟨[],⟨.cells [w,pv] 38,⟨_,rfl,rfl⟩,trivial,rfl,rfl⟩,rfl,_,l',rfl,q2, ?_⟩<;>(refine congrArg Value.bool ?_;simpa using hm)

/-! ### 137 -/
theorem inj137:∀ x y:ByteArray,((fun x=>Value.string x)) x = ((fun x=>Value.string x)) y→x = y:=fun x y h=>by cases h;rfl
theorem not193 (g:FuncId) (fi ca:Array Value) (p:ByteArray→Bool) (q:ByteArray→Prop) (J:Hp→Prop) (b:Nat) (hr:SoundFn Tryz.prog (.func (.func g) fi ca) (TestS (fun x=>Value.string x) p q J [])):Sound Tryz.prog 193 (fun a=>(#[]:Array Value).toList++a++(#[bptr b]:Array Value).toList) (TestS (fun x=>Value.string x) (fun x=>!p x) q J [⟨b,false, .cells [.func (.func g) fi ca] 131⟩]):=by
 refine ⟨fun args ls v ns G G' hg h=>h,fun args ls G Wd hsub hls hnd hpre=>?_⟩
 obtain ⟨rfl,hj,x,rfl,hx⟩:=hpre
 refine st_sound (Tab.nil _) comp193 (svs:=[.v (.string x), .c (.ptr 0 0)]) (obs:=[.cells (.named b) [.val (.func (.func g) fi ca)] 131]) (by simp) hsub hls hnd (Nat.le_of_ble_eq_true rfl) ?_ ?_ ?_
 ·exact ⟨rfl,trivial,⟨_,rfl,rfl⟩,(Nat.le_of_ble_eq_true rfl:0 < 1),trivial⟩
 ·exact ⟨⟨_,rfl,relL_vals _ [.func (.func g) fi ca],(by intro c hc;simp at hc;subst hc;trivial)⟩,trivial⟩
 ·(conv=>whnf)
  refine CallvP.fn _ hr (W.mk ?_)
  (conv=>whnf)
  refine StP.mk ⟨[],trivial,(by show ([]:List Nat).Nodup;decide),⟨rfl,hj,x,rfl,hx⟩,fun v ns G3 hg3 hpost=>W.mk ?_⟩
  obtain ⟨rfl,y,q1,rfl⟩:=hpost
  have hxy:=inj137 x y (List.cons.inj q1).1
  subst hxy
  (conv=>whnf)
  refine ForkP.mk (fun hm=>W.mk ?_) (fun hm=>W.mk ?_)<;>(conv=>whnf)<;>refine FinS.mk ⟨[],⟨.cells [.func (.func g) fi ca] 131,⟨_,rfl,rfl⟩,trivial,rfl,rfl⟩,rfl,x,rfl, ?_⟩<;>(show Value.bool _ = Value.bool (!p x);rw [hm];rfl)
theorem idx229 (g:FuncId) (fi ca:Array Value) (p:ByteArray→Bool) (q:ByteArray→Prop) (J:Hp→Prop) (b:Nat) (hJ:∀ G G',Grow G G'→J G→J G') (hr:SoundFn Tryz.prog (.func (.func g) fi ca) (TestS (fun x=>Value.string x) p q J [])):Sound Tryz.prog 229 id (AllS strE (.func (.func 193) #[] #[bptr b]) (fun xs=>I (idxP p xs 0)) q J [⟨b,false, .cells [.func (.func g) fi ca] 131⟩]):=by
 refine ⟨fun args ls v ns G G' hg h=>?_,fun args ls G Wd hsub hls hnd hpre=>?_⟩
 ·obtain ⟨h0,w,xs,h1,h2,h3⟩:=h;exact ⟨h0,w,xs,h1,h2.grow hg,h3⟩
 obtain ⟨rfl,hj,w,l,rfl,⟨a,n,c,rfl,hl,hn⟩,hq⟩:=hpre
 refine st_sound (Tab.nil _) comp229 (svs:=[.v (.slice a n c), .v (.func (.func 193) #[] #[bptr b])]) (obs:=[.cells (.named b) [.val (.func (.func g) fi ca)] 131]) (by simp) hsub hls hnd (Nat.le_of_ble_eq_true rfl) ?_ ?_ ?_
 ·exact ⟨rfl,trivial,rfl,trivial,trivial⟩
 ·exact ⟨⟨_,rfl,relL_vals _ [.func (.func g) fi ca],(by intro c hc;simp at hc;subst hc;trivial)⟩,trivial⟩
 ·have hlen:=hl.len
  (conv=>whnf)
  refine LoopP.of { α:=Nat,fr:=fun x=>[(0, .v (.slice a n c)),(1, .v (.func (.func 193) #[] #[bptr b])),(7, .v (I n)),(8, .v (I x))],H:=fun _=>[(0, .cells (.named b) [.val (.func (.func g) fi ca)] 131)],ok:=fun i _=>i≤l.length∧idxP p (l.drop i) i = idxP p l 0,m:=fun x=>l.length - x }
   0 (HeadP.of [] ⟨rfl,rfl,rfl,rfl,trivial⟩ ⟨rfl,trivial⟩) ⟨Nat.zero_le _,rfl⟩ (fun _=>⟨rfl,rfl⟩) (fun (i:Nat) G' hG hx=>W.mk ?_)
  obtain ⟨hi,hx⟩:=hx
  replace hl:=SlR.grow (G:=G) (G':=G') (fun _ _ h=>h) hl hG
  replace hj:=hJ _ _ hG hj
  (conv=>whnf)
  refine IteP.mk (fun hlt=>W.mk ?_) (fun hge=>W.mk ?_)<;>(conv=>whnf)
  ·have hlt:i < l.length:=by omega
   have hc:=hl.el hlt
   have hqi:=hq _ (List.getElem_mem hlt)
   rw [List.drop_eq_getElem_cons hlt,idxP] at hx
   repeat' (first | (refine ob ?_ ?_;(first | trivial | omega | (simp only [inR];omega) | exact ble (by rfl) | exact SlR.some ‹_› (by omega));(conv=>whnf)) | (first | (refine ra ‹_› (by rfl) ?_;(conv=>whnf)) | (refine rb ‹_› (by rfl) ?_;(conv=>whnf)) | (refine rc ‹_› (by rfl) ?_;(conv=>whnf)) | (refine rd ‹_› (by rfl) ?_;(conv=>whnf))))
   refine CallvP.fn _ (SoundFn.of body193 (not193 g fi ca p q J b hr)) (W.mk ?_)
   (conv=>whnf)
   refine StP.mk ⟨[(0,⟨b,false, .cells [.func (.func g) fi ca] 131⟩)],⟨⟨_,rfl,rfl⟩,trivial⟩,(by show ([0]:List Nat).Nodup;decide),⟨rfl,hj,l[i],rfl,hqi⟩,fun v ns G3 hg3 hpost=>W.mk ?_⟩
   obtain ⟨rfl,y,q1,rfl⟩:=hpost
   have hxy:=inj137 _ y (List.cons.inj q1).1
   subst hxy
   (conv=>whnf)
   refine ForkP.mk (fun hm=>W.mk ?_) (fun hm=>W.mk ?_)<;>(conv=>whnf)
   ·refine FinS.mk ⟨[],⟨.cells [.func (.func g) fi ca] 131,⟨_,rfl,rfl⟩,trivial,rfl,rfl⟩,rfl,_,l,rfl,⟨a,n,c,rfl,SlR.grow (G:=G') (G':=G3) (fun _ _ h=>h) hl hg3,hn⟩, ?_⟩
    rw [if_neg (by simpa using hm)] at hx
    show I (i:Int) = I (idxP p l 0);rw [← hx]
   ·(refine ob ?_ ?_;(first | trivial | omega | (simp only [inR];omega) | exact ble (by rfl) | exact SlR.some ‹_› (by omega));(conv=>whnf))
    rw [if_pos (by simpa using hm)] at hx
    exact RoundP.of (i + 1) (HeadP.of [] ⟨rfl,rfl,rfl,rfl,trivial⟩ ⟨rfl,trivial⟩) ⟨hlt,hx⟩ (by simp only;omega)
  ·have:i = l.length:=by omega
   subst this
   rw [List.drop_length] at hx
   refine FinS.mk ⟨[],⟨.cells [.func (.func g) fi ca] 131,⟨_,rfl,rfl⟩,trivial,rfl,rfl⟩,rfl,_,l,rfl,⟨a,n,c,rfl,hl,hn⟩, ?_⟩
   show I (-1) = I (idxP p l 0);rw [← hx];rfl
theorem con192 (g:FuncId) (fi ca:Array Value) (p:ByteArray→Bool) (q:ByteArray→Prop) (J:Hp→Prop) (b:Nat) (hJ:∀ G G',Grow G G'→J G→J G') (hr:SoundFn Tryz.prog (.func (.func g) fi ca) (TestS (fun x=>Value.string x) p q J [])):Sound Tryz.prog 192 id (AllS strE (.func (.func 193) #[] #[bptr b]) (fun xs=>.bool (!(xs.all p))) q J [⟨b,false, .cells [.func (.func g) fi ca] 131⟩]):=by
 refine ⟨fun args ls v ns G G' hg h=>?_,fun args ls G Wd hsub hls hnd hpre=>?_⟩
 ·obtain ⟨h0,w,xs,h1,h2,h3⟩:=h;exact ⟨h0,w,xs,h1,h2.grow hg,h3⟩
 obtain ⟨rfl,hj,w,l,rfl,⟨a,n,c,rfl,hl,hn⟩,hq⟩:=hpre
 refine st_sound (Tab.cons 229 _ (idx229 g fi ca p q J b hJ hr) body229 (Tab.nil _)) comp192 (svs:=[.v (.slice a n c), .v (.func (.func 193) #[] #[bptr b])]) (obs:=[.cells (.named b) [.val (.func (.func g) fi ca)] 131]) (by simp) hsub hls hnd (Nat.le_of_ble_eq_true rfl) ?_ ?_ ?_
 ·exact ⟨rfl,trivial,rfl,trivial,trivial⟩
 ·exact ⟨⟨_,rfl,relL_vals _ [.func (.func g) fi ca],(by intro c hc;simp at hc;subst hc;trivial)⟩,trivial⟩
 ·(conv=>whnf)
  refine StP.mk ⟨[(0,⟨b,false, .cells [.func (.func g) fi ca] 131⟩)],⟨⟨_,rfl,rfl⟩,trivial⟩,(by show ([0]:List Nat).Nodup;decide),⟨rfl,hj,_,l,rfl,⟨a,n,c,rfl,hl,hn⟩,hq⟩,fun v ns G3 hg3 hpost=>W.mk ?_⟩
  obtain ⟨rfl,w',l',q1,q2,rfl⟩:=hpost
  simp only [List.cons.injEq,and_true] at q1
  subst q1
  have:l' = l:=q2.uniq (SlV.grow hg3 ⟨a,n,c,rfl,hl,hn⟩)
  subst this
  have hall:=idxP_all p l' 0
  (conv=>whnf)
  refine IteP.mk (fun hq=>W.mk ?_) (fun hq=>W.mk ?_)<;>(conv=>whnf)<;>refine FinS.mk ⟨[],⟨.cells [.func (.func g) fi ca] 131,⟨_,rfl,rfl⟩,trivial,rfl,rfl⟩,rfl,_,l',rfl,q2, ?_⟩<;>show Value.bool _ = Value.bool (!(l'.all p))<;>rw [← hall]<;>simp [*]
theorem all137 (g:FuncId) (fi ca:Array Value) (p:ByteArray→Bool) (q:ByteArray→Prop) (J:Hp→Prop) (hJ:∀ G G',Grow G G'→J G→J G') (hr:SoundFn Tryz.prog (.func (.func g) fi ca) (TestS (fun x=>Value.string x) p q J [])):Sound Tryz.prog 137 id (AllS strE (.func (.func g) fi ca) (fun xs=>.bool (xs.all p)) q J []):=by
 refine ⟨fun args ls v ns G G' hg h=>?_,fun args ls G Wd hsub hls hnd hpre=>?_⟩
 ·obtain ⟨h0,w,xs,h1,h2,h3⟩:=h;exact ⟨h0,w,xs,h1,h2.grow hg,h3⟩
 obtain ⟨rfl,hj,w,l,rfl,⟨a,n,c,rfl,hl,hn⟩,hq⟩:=hpre
 refine st_sound (Tab.nil _) (at0 comp137) (svs:=[.v (.slice a n c), .v (.func (.func g) fi ca)]) (obs:=[]) (by simp) hsub hls hnd (Nat.le_of_ble_eq_true rfl) ?_ ?_ ?_
 ·exact ⟨rfl,trivial,rfl,trivial,trivial⟩
 ·exact trivial
 ·(conv=>whnf)
  refine NameP.mk (fun b=>W.mk ?_)
  (conv=>whnf)
  refine CallN.mk ⟨_,con192 g fi ca p q J b hJ hr,body192,W.mk ?_⟩
  (conv=>whnf)
  refine StP.mk ⟨[(0,⟨b,false, .cells [.func (.func g) fi ca] 131⟩)],⟨⟨_,rfl,rfl⟩,trivial⟩,(by show ([0]:List Nat).Nodup;decide),⟨rfl,hj,_,l,rfl,⟨a,n,c,rfl,hl,hn⟩,hq⟩,fun v ns G3 hg3 hpost=>W.mk ?_⟩
  obtain ⟨rfl,w',l',q1,q2,rfl⟩:=hpost
  simp only [List.cons.injEq,and_true] at q1
  subst q1
  have:l' = l:=q2.uniq (SlV.grow hg3 ⟨a,n,c,rfl,hl,hn⟩)
  subst this
  (conv=>whnf)
  refine ForkP.mk (fun hm=>W.mk ?_) (fun hm=>W.mk ?_)<;>(conv=>whnf)<;>refine FinS.mk ⟨[],rfl,rfl,_,l',rfl,q2, ?_⟩<;>(refine congrArg Value.bool ?_;simpa using hm)

/-! ### 194 -/
theorem inj194:∀ x y:Int,(U8) x = (U8) y→x = y:=fun x y h=>by cases h;rfl
theorem not230 (g:FuncId) (fi ca:Array Value) (p:Int→Bool) (q:Int→Prop) (J:Hp→Prop) (b:Nat) (hr:SoundFn Tryz.prog (.func (.func g) fi ca) (TestS U8 p q J [])):Sound Tryz.prog 230 (fun a=>(#[]:Array Value).toList++a++(#[bptr b]:Array Value).toList) (TestS U8 (fun x=>!p x) q J [⟨b,false, .cells [.func (.func g) fi ca] 276⟩]):=by
 refine ⟨fun args ls v ns G G' hg h=>h,fun args ls G Wd hsub hls hnd hpre=>?_⟩
 obtain ⟨rfl,hj,x,rfl,hx⟩:=hpre
 refine st_sound (Tab.nil _) comp230 (svs:=[.v (U8 x), .c (.ptr 0 0)]) (obs:=[.cells (.named b) [.val (.func (.func g) fi ca)] 276]) (by simp) hsub hls hnd (Nat.le_of_ble_eq_true rfl) ?_ ?_ ?_
 ·exact ⟨rfl,trivial,⟨_,rfl,rfl⟩,(Nat.le_of_ble_eq_true rfl:0 < 1),trivial⟩
 ·exact ⟨⟨_,rfl,relL_vals _ [.func (.func g) fi ca],(by intro c hc;simp at hc;subst hc;trivial)⟩,trivial⟩
 ·(conv=>whnf)
  refine CallvP.fn _ hr (W.mk ?_)
  (conv=>whnf)
  refine StP.mk ⟨[],trivial,(by show ([]:List Nat).Nodup;decide),⟨rfl,hj,x,rfl,hx⟩,fun v ns G3 hg3 hpost=>W.mk ?_⟩
  obtain ⟨rfl,y,q1,rfl⟩:=hpost
  have hxy:=inj194 x y (List.cons.inj q1).1
  subst hxy
  (conv=>whnf)
  refine ForkP.mk (fun hm=>W.mk ?_) (fun hm=>W.mk ?_)<;>(conv=>whnf)<;>refine FinS.mk ⟨[],⟨.cells [.func (.func g) fi ca] 276,⟨_,rfl,rfl⟩,trivial,rfl,rfl⟩,rfl,x,rfl, ?_⟩<;>(show Value.bool _ = Value.bool (!p x);rw [hm];rfl)
theorem idx242 (g:FuncId) (fi ca:Array Value) (p:Int→Bool) (q:Int→Prop) (J:Hp→Prop) (b:Nat) (hJ:∀ G G',Grow G G'→J G→J G') (hr:SoundFn Tryz.prog (.func (.func g) fi ca) (TestS U8 p q J [])):Sound Tryz.prog 242 id (AllS u8E (.func (.func 230) #[] #[bptr b]) (fun xs=>I (idxP p xs 0)) q J [⟨b,false, .cells [.func (.func g) fi ca] 276⟩]):=by
 refine ⟨fun args ls v ns G G' hg h=>?_,fun args ls G Wd hsub hls hnd hpre=>?_⟩
 ·obtain ⟨h0,w,xs,h1,h2,h3⟩:=h;exact ⟨h0,w,xs,h1,h2.grow hg,h3⟩
 obtain ⟨rfl,hj,w,l,rfl,⟨a,n,c,rfl,hl,hn⟩,hq⟩:=hpre
 refine st_sound (Tab.nil _) comp242 (svs:=[.v (.slice a n c), .v (.func (.func 230) #[] #[bptr b])]) (obs:=[.cells (.named b) [.val (.func (.func g) fi ca)] 276]) (by simp) hsub hls hnd (Nat.le_of_ble_eq_true rfl) ?_ ?_ ?_
 ·exact ⟨rfl,trivial,rfl,trivial,trivial⟩
 ·exact ⟨⟨_,rfl,relL_vals _ [.func (.func g) fi ca],(by intro c hc;simp at hc;subst hc;trivial)⟩,trivial⟩
 ·have hlen:=hl.len
  (conv=>whnf)
  refine LoopP.of { α:=Nat,fr:=fun x=>[(0, .v (.slice a n c)),(1, .v (.func (.func 230) #[] #[bptr b])),(7, .v (I n)),(8, .v (I x))],H:=fun _=>[(0, .cells (.named b) [.val (.func (.func g) fi ca)] 276)],ok:=fun i _=>i≤l.length∧idxP p (l.drop i) i = idxP p l 0,m:=fun x=>l.length - x }
   0 (HeadP.of [] ⟨rfl,rfl,rfl,rfl,trivial⟩ ⟨rfl,trivial⟩) ⟨Nat.zero_le _,rfl⟩ (fun _=>⟨rfl,rfl⟩) (fun (i:Nat) G' hG hx=>W.mk ?_)
  obtain ⟨hi,hx⟩:=hx
  replace hl:=SlR.grow (G:=G) (G':=G') (fun _ _ h=>h) hl hG
  replace hj:=hJ _ _ hG hj
  (conv=>whnf)
  refine IteP.mk (fun hlt=>W.mk ?_) (fun hge=>W.mk ?_)<;>(conv=>whnf)
  ·have hlt:i < l.length:=by omega
   have hc:=hl.el hlt
   have hqi:=hq _ (List.getElem_mem hlt)
   rw [List.drop_eq_getElem_cons hlt,idxP] at hx
   repeat' (first | (refine ob ?_ ?_;(first | trivial | omega | (simp only [inR];omega) | exact ble (by rfl) | exact SlR.some ‹_› (by omega));(conv=>whnf)) | (first | (refine ra ‹_› (by rfl) ?_;(conv=>whnf)) | (refine rb ‹_› (by rfl) ?_;(conv=>whnf)) | (refine rc ‹_› (by rfl) ?_;(conv=>whnf)) | (refine rd ‹_› (by rfl) ?_;(conv=>whnf))))
   refine CallvP.fn _ (SoundFn.of body230 (not230 g fi ca p q J b hr)) (W.mk ?_)
   (conv=>whnf)
   refine StP.mk ⟨[(0,⟨b,false, .cells [.func (.func g) fi ca] 276⟩)],⟨⟨_,rfl,rfl⟩,trivial⟩,(by show ([0]:List Nat).Nodup;decide),⟨rfl,hj,l[i],rfl,hqi⟩,fun v ns G3 hg3 hpost=>W.mk ?_⟩
   obtain ⟨rfl,y,q1,rfl⟩:=hpost
   have hxy:=inj194 _ y (List.cons.inj q1).1
   subst hxy
   (conv=>whnf)
   refine ForkP.mk (fun hm=>W.mk ?_) (fun hm=>W.mk ?_)<;>(conv=>whnf)
   ·refine FinS.mk ⟨[],⟨.cells [.func (.func g) fi ca] 276,⟨_,rfl,rfl⟩,trivial,rfl,rfl⟩,rfl,_,l,rfl,⟨a,n,c,rfl,SlR.grow (G:=G') (G':=G3) (fun _ _ h=>h) hl hg3,hn⟩, ?_⟩
    rw [if_neg (by simpa using hm)] at hx
    show I (i:Int) = I (idxP p l 0);rw [← hx]
   ·(refine ob ?_ ?_;(first | trivial | omega | (simp only [inR];omega) | exact ble (by rfl) | exact SlR.some ‹_› (by omega));(conv=>whnf))
    rw [if_pos (by simpa using hm)] at hx
    exact RoundP.of (i + 1) (HeadP.of [] ⟨rfl,rfl,rfl,rfl,trivial⟩ ⟨rfl,trivial⟩) ⟨hlt,hx⟩ (by simp only;omega)
  ·have:i = l.length:=by omega
   subst this
   rw [List.drop_length] at hx
   refine FinS.mk ⟨[],⟨.cells [.func (.func g) fi ca] 276,⟨_,rfl,rfl⟩,trivial,rfl,rfl⟩,rfl,_,l,rfl,⟨a,n,c,rfl,hl,hn⟩, ?_⟩
   show I (-1) = I (idxP p l 0);rw [← hx];rfl
theorem con208 (g:FuncId) (fi ca:Array Value) (p:Int→Bool) (q:Int→Prop) (J:Hp→Prop) (b:Nat) (hJ:∀ G G',Grow G G'→J G→J G') (hr:SoundFn Tryz.prog (.func (.func g) fi ca) (TestS U8 p q J [])):Sound Tryz.prog 208 id (AllS u8E (.func (.func 230) #[] #[bptr b]) (fun xs=>.bool (!(xs.all p))) q J [⟨b,false, .cells [.func (.func g) fi ca] 276⟩]):=by
 refine ⟨fun args ls v ns G G' hg h=>?_,fun args ls G Wd hsub hls hnd hpre=>?_⟩
 ·obtain ⟨h0,w,xs,h1,h2,h3⟩:=h;exact ⟨h0,w,xs,h1,h2.grow hg,h3⟩
 obtain ⟨rfl,hj,w,l,rfl,⟨a,n,c,rfl,hl,hn⟩,hq⟩:=hpre
 refine st_sound (Tab.cons 242 _ (idx242 g fi ca p q J b hJ hr) body242 (Tab.nil _)) comp208 (svs:=[.v (.slice a n c), .v (.func (.func 230) #[] #[bptr b])]) (obs:=[.cells (.named b) [.val (.func (.func g) fi ca)] 276]) (by simp) hsub hls hnd (Nat.le_of_ble_eq_true rfl) ?_ ?_ ?_
 ·exact ⟨rfl,trivial,rfl,trivial,trivial⟩
 ·exact ⟨⟨_,rfl,relL_vals _ [.func (.func g) fi ca],(by intro c hc;simp at hc;subst hc;trivial)⟩,trivial⟩
 ·(conv=>whnf)
  refine StP.mk ⟨[(0,⟨b,false, .cells [.func (.func g) fi ca] 276⟩)],⟨⟨_,rfl,rfl⟩,trivial⟩,(by show ([0]:List Nat).Nodup;decide),⟨rfl,hj,_,l,rfl,⟨a,n,c,rfl,hl,hn⟩,hq⟩,fun v ns G3 hg3 hpost=>W.mk ?_⟩
  obtain ⟨rfl,w',l',q1,q2,rfl⟩:=hpost
  simp only [List.cons.injEq,and_true] at q1
  subst q1
  have:l' = l:=q2.uniq (SlV.grow hg3 ⟨a,n,c,rfl,hl,hn⟩)
  subst this
  have hall:=idxP_all p l' 0
  (conv=>whnf)
  refine IteP.mk (fun hq=>W.mk ?_) (fun hq=>W.mk ?_)<;>(conv=>whnf)<;>refine FinS.mk ⟨[],⟨.cells [.func (.func g) fi ca] 276,⟨_,rfl,rfl⟩,trivial,rfl,rfl⟩,rfl,_,l',rfl,q2, ?_⟩<;>show Value.bool _ = Value.bool (!(l'.all p))<;>rw [← hall]<;>simp [*]
theorem all194 (g:FuncId) (fi ca:Array Value) (p:Int→Bool) (q:Int→Prop) (J:Hp→Prop) (hJ:∀ G G',Grow G G'→J G→J G') (hr:SoundFn Tryz.prog (.func (.func g) fi ca) (TestS U8 p q J [])):Sound Tryz.prog 194 id (AllS u8E (.func (.func g) fi ca) (fun xs=>.bool (xs.all p)) q J []):=by
 refine ⟨fun args ls v ns G G' hg h=>?_,fun args ls G Wd hsub hls hnd hpre=>?_⟩
 ·obtain ⟨h0,w,xs,h1,h2,h3⟩:=h;exact ⟨h0,w,xs,h1,h2.grow hg,h3⟩
 obtain ⟨rfl,hj,w,l,rfl,⟨a,n,c,rfl,hl,hn⟩,hq⟩:=hpre
 refine st_sound (Tab.nil _) (at0 comp194) (svs:=[.v (.slice a n c), .v (.func (.func g) fi ca)]) (obs:=[]) (by simp) hsub hls hnd (Nat.le_of_ble_eq_true rfl) ?_ ?_ ?_
 ·exact ⟨rfl,trivial,rfl,trivial,trivial⟩
 ·exact trivial
 ·(conv=>whnf)
  refine NameP.mk (fun b=>W.mk ?_)
  (conv=>whnf)
  refine CallN.mk ⟨_,con208 g fi ca p q J b hJ hr,body208,W.mk ?_⟩
  (conv=>whnf)
  refine StP.mk ⟨[(0,⟨b,false, .cells [.func (.func g) fi ca] 276⟩)],⟨⟨_,rfl,rfl⟩,trivial⟩,(by show ([0]:List Nat).Nodup;decide),⟨rfl,hj,_,l,rfl,⟨a,n,c,rfl,hl,hn⟩,hq⟩,fun v ns G3 hg3 hpost=>W.mk ?_⟩
  obtain ⟨rfl,w',l',q1,q2,rfl⟩:=hpost
  simp only [List.cons.injEq,and_true] at q1
  subst q1
  have:l' = l:=q2.uniq (SlV.grow hg3 ⟨a,n,c,rfl,hl,hn⟩)
  subst this
  (conv=>whnf)
  refine ForkP.mk (fun hm=>W.mk ?_) (fun hm=>W.mk ?_)<;>(conv=>whnf)<;>refine FinS.mk ⟨[],rfl,rfl,_,l',rfl,q2, ?_⟩<;>(refine congrArg Value.bool ?_;simpa using hm)
end Go.Proofs.YtefnikpoimaiiaaGreat

namespace Go.Proofs.YtefnikpoimaiiaaGreat
open Go.Pal Go.RowKit
set_option maxRecDepth 100000
theorem words30:Sound Tryz.prog 30 id (gsca (args1 (slRd strE) fun _=>True) fun l v=>∃ b,v = .bool b∧(b = true→∀ s∈l,GoodW s)):=by
 refine comp30.gsca (Tab.nil _) (fun args G s h=>?_) (fun args G l h=>?_)
 ·obtain ⟨v,rfl,_⟩:=h;simp
 ·obtain ⟨v,rfl,⟨a,n,c,rfl,hl,hn⟩,_⟩:=h
  have hln:=hl.len
  (conv=>whnf)
  refine LoopP.of { α:=Nat × Unit,fr:=fun z=>[(0, .v (.slice a n c)),(3, .v (I z.1))],H:=fun _=>[],ok:=fun z _=>z.1≤n∧∀ j (h:j < l.length),j < z.1→GoodW l[j],m:=fun z=>n - z.1 }
   (0,()) (HeadP.of [] ⟨rfl,rfl,trivial⟩ trivial) ⟨Nat.zero_le _,fun j _ h=>absurd h (Nat.not_lt_zero _)⟩ (fun _=>⟨rfl,rfl⟩) (fun z G1 hG hz=>W.mk ?_)
  obtain ⟨i,_⟩:=z
  obtain ⟨k1,k2⟩:=hz
  dsimp only at k1 k2
  dsimp only
  replace hl:=SlR.grow (G:=G) (G':=G1) (fun _ _ h=>h) hl hG
  (conv=>whnf)
  refine IteP.mk (fun hlt=>W.mk ?_) (fun hge=>W.mk ?_)<;>(conv=>whnf)
  ·have hlt:i < l.length:=by have hlt:(i:Int) < n:=hlt;omega
   have hel:=hl.el hlt
   repeat' (first | (refine ob ?_ ?_;(first | trivial | omega | (simp only [inR];omega) | exact ble (by rfl) | exact SlR.some ‹_› (by omega));(conv=>whnf)) | (first | (refine ra ‹_› (by rfl) ?_;(conv=>whnf)) | (refine rb ‹_› (by rfl) ?_;(conv=>whnf)) | (refine rc ‹_› (by rfl) ?_;(conv=>whnf)) | (refine rd ‹_› (by rfl) ?_;(conv=>whnf))))
   refine IteP.mk (fun h1=>W.mk ?_) (fun h1=>W.mk ?_)<;>(conv=>whnf)
   ·exact FinP.mk ⟨false,rfl,fun h=>by cases h⟩
   have h1:¬ (l[i].size:Int) < 1:=h1
   repeat' (first | (refine ob ?_ ?_;(first | trivial | omega | (simp only [inR];omega) | exact ble (by rfl) | exact SlR.some ‹_› (by omega));(conv=>whnf)) | (first | (refine ra ‹_› (by rfl) ?_;(conv=>whnf)) | (refine rb ‹_› (by rfl) ?_;(conv=>whnf)) | (refine rc ‹_› (by rfl) ?_;(conv=>whnf)) | (refine rd ‹_› (by rfl) ?_;(conv=>whnf))))
   refine IteP.mk (fun h2=>W.mk ?_) (fun h2=>W.mk ?_)<;>(conv=>whnf)
   ·exact FinP.mk ⟨false,rfl,fun h=>by cases h⟩
   have h2:¬ (l[i].size:Int) > 20:=h2
   refine LoopP.of { α:=Nat × Unit,fr:=fun z=>[(0, .v (.slice a n c)),(3, .v (I i)),(4, .v (I z.1))],H:=fun _=>[],ok:=fun z _=>z.1≤l[i].size∧∀ j (h:j < (bytesL l[i]).length),j < z.1→33≤(bytesL l[i])[j]∧(bytesL l[i])[j]≤126,m:=fun z=>l[i].size - z.1 }
    (0,()) (HeadP.of [] ⟨rfl,rfl,rfl,trivial⟩ trivial) ⟨Nat.zero_le _,fun j _ h=>absurd h (Nat.not_lt_zero _)⟩ (fun _=>⟨rfl,rfl⟩) (fun z G2 hG2 hz=>W.mk ?_)
   obtain ⟨k,_⟩:=z
   obtain ⟨k3,k4⟩:=hz
   dsimp only at k3 k4
   dsimp only
   replace hl:=SlR.grow (G:=G1) (G':=G2) (fun _ _ h=>h) hl hG2
   have hel:=hl.el hlt
   (conv=>whnf)
   repeat' (first | (refine ob ?_ ?_;(first | trivial | omega | (simp only [inR];omega) | exact ble (by rfl) | exact SlR.some ‹_› (by omega));(conv=>whnf)) | (first | (refine ra ‹_› (by rfl) ?_;(conv=>whnf)) | (refine rb ‹_› (by rfl) ?_;(conv=>whnf)) | (refine rc ‹_› (by rfl) ?_;(conv=>whnf)) | (refine rd ‹_› (by rfl) ?_;(conv=>whnf))))
   refine IteP.mk (fun h3=>W.mk ?_) (fun h3=>W.mk ?_)<;>(conv=>whnf)
   ·have h3:(k:Int) < (l[i].size:Nat):=h3
    obtain ⟨b,hb,hk,hbl⟩:=bytes_get (s:=l[i]) (i:=k) (by omega)
    repeat' (first | (refine ob ?_ ?_;(first | trivial | omega | (simp only [inR];omega) | exact ble (by rfl) | exact SlR.some ‹_› (by omega));(conv=>whnf)) | (first | (refine ra ‹_› (by rfl) ?_;(conv=>whnf)) | (refine rb ‹_› (by rfl) ?_;(conv=>whnf)) | (refine rc ‹_› (by rfl) ?_;(conv=>whnf)) | (refine rd ‹_› (by rfl) ?_;(conv=>whnf))))
    refine PurP.of _ (pur_idxS hb) (W.mk ?_)
    (conv=>whnf)
    refine IteP.mk (fun h4=>W.mk ?_) (fun h4=>W.mk ?_)<;>(conv=>whnf)
    ·exact FinP.mk ⟨false,rfl,fun h=>by cases h⟩
    have h4:¬ ((b.toNat:Nat):Int) < 33:=h4
    repeat' (first | (refine ob ?_ ?_;(first | trivial | omega | (simp only [inR];omega) | exact ble (by rfl) | exact SlR.some ‹_› (by omega));(conv=>whnf)) | (first | (refine ra ‹_› (by rfl) ?_;(conv=>whnf)) | (refine rb ‹_› (by rfl) ?_;(conv=>whnf)) | (refine rc ‹_› (by rfl) ?_;(conv=>whnf)) | (refine rd ‹_› (by rfl) ?_;(conv=>whnf))))
    refine PurP.of _ (pur_idxS hb) (W.mk ?_)
    (conv=>whnf)
    refine IteP.mk (fun h5=>W.mk ?_) (fun h5=>W.mk ?_)<;>(conv=>whnf)
    ·exact FinP.mk ⟨false,rfl,fun h=>by cases h⟩
    have h5:¬ ((b.toNat:Nat):Int) > 126:=h5
    (refine ob ?_ ?_;(first | trivial | omega | (simp only [inR];omega) | exact ble (by rfl) | exact SlR.some ‹_› (by omega));(conv=>whnf))
    refine RoundP.of (k + 1,()) (HeadP.of [] ⟨rfl,rfl,rfl,trivial⟩ trivial) ⟨by show k + 1≤l[i].size;omega,fun j h h6=>?_⟩ (by show l[i].size - (k + 1) < l[i].size - k;omega)
    by_cases e:j = k
    ·subst e;rw [hbl];omega
    ·exact k4 j h (by have h6:j < k + 1:=h6;omega)
   ·have h3:¬ (k:Int) < (l[i].size:Nat):=h3
    (refine ob ?_ ?_;(first | trivial | omega | (simp only [inR];omega) | exact ble (by rfl) | exact SlR.some ‹_› (by omega));(conv=>whnf))
    refine RoundP.of (i + 1,()) (HeadP.of [] ⟨rfl,rfl,trivial⟩ trivial) ⟨by show i + 1≤n;omega,fun j h h6=>?_⟩ (by show n - (i + 1) < n - i;omega)
    by_cases e:j = i
    ·subst e
     refine ⟨by omega,fun c hc=>?_⟩
     obtain ⟨q,hq,rfl⟩:=List.getElem_of_mem hc
     exact k4 q hq (by rw [bytes_len] at hq;omega)
    ·exact k2 j h (by have h6:j < i + 1:=h6;omega)
  ·have hge:¬ (i:Int) < n:=hge
   refine FinP.mk ⟨true,rfl,fun _ s hs=>?_⟩
   obtain ⟨j,hj,rfl⟩:=List.getElem_of_mem hs
   exact k2 j hj (by omega)
def tabF:Tab Tryz.prog:=Tab.cons 12 _ find12 body12 (Tab.nil _)
theorem of32:Sound Tryz.prog 32 id (grel (args2 moRd intRd fun m x=>x = 0∨∃ q,pOf m x = some q) fun x v G=>SlV strE G v (wOf x.1 x.2)):=by
 refine comp32.grel tabF (ok2 _ _ _) (fun args G s h=>?_) (fun x v G G' hg h=>h.grow hg) (fun args G s h=>?_)
 ·obtain ⟨v,w,rfl,_⟩:=h;simp
 ·obtain ⟨m,x⟩:=s
  obtain ⟨v,w,rfl,hm,rfl,hx⟩:=h
  have hm0:=hm
  obtain ⟨w0,a,n,c,rfl,hw,hl,hn,hp⟩:=hm
  have hln:=hl.len
  have hcl:m.cs.length = m.ps.length:=by simp
  dsimp only at hl hln hw hp hx hm0
  dsimp only
  have hw0:=hw
  obtain ⟨wa,wn,wc,rfl,_⟩:=hw
  (conv=>whnf)
  refine IteP.mk (fun h0=>W.mk ?_) (fun h0=>W.mk ?_)<;>(conv=>whnf)
  ·have h0:x = 0:=h0
   refine FinP.mk ?_
   show SlV strE G (.slice wa wn wc) (wOf m x)
   rw [wOf,if_pos h0]
   exact hw0
  ·have h0:¬ x = 0:=h0
   refine ScaP.g (ok2 moRd intRd fun _ _=>True) (x:=(m,x)) ⟨_,_,rfl,hm0,rfl,trivial⟩ (fun v hv=>W.mk ?_)
   subst hv
   dsimp only
   rcases ixF_cases m.ps x with ⟨h1,h2⟩ | ⟨i,hi,h1,h2,h3⟩
   ·rcases hx with hx | ⟨q,hq⟩
    ·exact absurd hx h0
    ·rw [pOf,h2] at hq;cases hq
   rw [h1]
   have hel:=hl.el (i:=i) (by omega)
   rw [cs_get (by omega)] at hel
   (conv=>whnf)
   refine OblP.mk ⟨by omega,by omega⟩ (W.mk ?_)
   (conv=>whnf)
   refine OblP.mk (hl.some (by omega)) (W.mk ?_)
   (conv=>whnf)
   refine RdP.at (cs:=[m.ps[i].c.sl]) (CellsAt.drop (d:=4) (n:=1) hel) rfl (W.mk ?_)
   (conv=>whnf)
   refine FinP.mk ?_
   show SlV strE G m.ps[i].c.sl (wOf m x)
   rw [wOf,if_neg h0,pOf,h3]
   exact hp _ (List.getElem_mem hi)
def clashF (a b:Pc):Bool:=decide (a.n≠b.n∧a.of = b.of∧a.fr < b.to∧b.fr < a.to)
def pcRd:Rd Pc:=⟨fun _ v x=>v = pcV x,fun {_ _ x y} h h'=>by rw [h] at h';cases x;cases y;simp at h';simp [h'],fun {_ _ _ _} _ h=>h⟩
theorem clash35:Sound Tryz.prog 35 id (gsca (args2 pcRd pcRd fun _ _=>True) fun x v=>v = .bool (clashF x.1 x.2)):=by
 refine comp35.gsca (Tab.nil _) (fun args G s h=>?_) (fun args G s h=>?_)
 ·obtain ⟨v,w,rfl,_⟩:=h;simp
 ·obtain ⟨x,y⟩:=s
  obtain ⟨v,w,rfl,rfl,rfl,_⟩:=h
  dsimp only
  (conv=>whnf)
  repeat' (first | (refine IteP.mk (fun _=>W.mk ?_) (fun _=>W.mk ?_)<;>(conv=>whnf)) | (refine ob ?_ ?_;(first | trivial | omega | (simp only [inR];omega) | exact ble (by rfl) | exact SlR.some ‹_› (by omega));(conv=>whnf)) | (refine ForkP.mk (fun _=>W.mk ?_) (fun _=>W.mk ?_)<;>(conv=>whnf)) | (refine ra ‹_› (by rfl) ?_;(conv=>whnf)) | (refine rb ‹_› (by rfl) ?_;(conv=>whnf)) | (refine rc ‹_› (by rfl) ?_;(conv=>whnf)) | (refine rd ‹_› (by rfl) ?_;(conv=>whnf)) | (refine FinP.mk ?_))
  all_goals (refine congrArg Value.bool ?_;simp [clashF, *])
structure FewOk (m:Mt):Prop where
 w:m.ws.length≤65
 p:∀ p∈m.ps,p.ws.length≤65
 n:m.ps.length≤12
theorem few5:Sound Tryz.prog 5 id (gsca (args1 muRd fun _=>True) fun m v=>∃ b,v = .bool b∧(b = true→FewOk m)):=by
 refine comp5.gsca (Tab.cons 29 _ short29 body29 (Tab.nil _)) (fun args G s h=>?_) (fun args G m h=>?_)
 ·obtain ⟨v,rfl,_⟩:=h;simp
 ·obtain ⟨v,rfl,⟨w0,a,n,c,rfl,hw,hl,hn,hp⟩,_⟩:=h
  have hln:=hl.len
  have hmx:n≤9223372036854775807:=hn
  have hcl:m.cs.length = m.ps.length:=by simp
  have hw0:=hw
  obtain ⟨wa,wn,wc,rfl,_⟩:=hw
  (conv=>whnf)
  refine LoopP.of { α:=Nat × Unit,fr:=fun z=>[(1, .c (.ptr 0 0)),(3, .v (I z.1))],H:=fun _=>[(0, .cells .anon [.val (.slice wa wn wc), .val (.slice a n c)] 25)],ok:=fun z _=>z.1≤n∧∀ j (h:j < m.ps.length),j < z.1→m.ps[j].ws.length≤65,m:=fun z=>n - z.1 }
   (0,()) (HeadP.of [] ⟨rfl,rfl,trivial⟩ ⟨rfl,trivial⟩) ⟨Nat.zero_le _,fun j _ h=>absurd h (Nat.not_lt_zero _)⟩ (fun _=>⟨rfl,rfl⟩) (fun z G' hG hz=>W.mk ?_)
  obtain ⟨i,_⟩:=z
  obtain ⟨k1,k2⟩:=hz
  dsimp only at k1 k2
  dsimp only
  replace hl:=SlR.grow (G:=G) (G':=G') (fun _ _ h=>h) hl hG
  replace hw0:=hw0.grow hG
  (conv=>whnf)
  refine IteP.mk (fun hlt=>W.mk ?_) (fun hge=>W.mk ?_)<;>(conv=>whnf)
  ·have hlt:i < m.ps.length:=by have hlt:(i:Int) < n:=hlt;omega
   have hel:=hl.el (i:=i) (by omega)
   rw [cs_get hlt] at hel
   refine OblP.mk ⟨by omega,by omega⟩ (W.mk ?_)
   (conv=>whnf)
   refine OblP.mk (hl.some (by omega)) (W.mk ?_)
   (conv=>whnf)
   refine RdP.at (cs:=[m.ps[i].c.sl]) (CellsAt.drop (d:=4) (n:=1) hel) rfl (W.mk ?_)
   (conv=>whnf)
   refine ScaP.g (ok1 (slURd strE) fun _=>True) (x:=m.ps[i].ws) ⟨_,rfl,SlU.grow hG (hp _ (List.getElem_mem hlt)),trivial⟩ (fun v hv=>W.mk ?_)
   obtain ⟨b,rfl,hb⟩:=hv
   (conv=>whnf)
   refine ForkP.mk (fun h=>W.mk ?_) (fun h=>W.mk ?_)<;>(conv=>whnf)
   rotate_left
   ·exact FinP.mk ⟨false,rfl,fun h=>by cases h⟩
   ·(refine ob ?_ ?_;(first | trivial | omega | (simp only [inR];omega) | exact ble (by rfl) | exact SlR.some ‹_› (by omega));(conv=>whnf))
    refine RoundP.of (i + 1,()) (HeadP.of [] ⟨rfl,rfl,trivial⟩ ⟨rfl,trivial⟩) ⟨by show i + 1≤n;omega,fun j h6 h7=>?_⟩ (by show n - (i + 1) < n - i;omega)
    by_cases e:j = i
    ·subst e;exact hb h
    ·exact k2 j h6 (by have h7:j < i + 1:=h7;omega)
  ·have hge:¬ (i:Int) < n:=hge
   refine ScaP.g (ok1 (slURd strE) fun _=>True) (x:=m.ws) ⟨_,rfl,hw0,trivial⟩ (fun v hv=>W.mk ?_)
   obtain ⟨b,rfl,hb⟩:=hv
   (conv=>whnf)
   refine ForkP.mk (fun h=>W.mk ?_) (fun h=>W.mk ?_)<;>(conv=>whnf)
   rotate_left
   ·exact FinP.mk ⟨false,rfl,fun h=>by cases h⟩
   ·refine IteP.mk (fun h12=>W.mk ?_) (fun h12=>W.mk ?_)<;>(conv=>whnf)
    rotate_left
    ·exact FinP.mk ⟨false,rfl,fun h=>by cases h⟩
    ·have h12:(n:Int)≤12:=h12
     refine FinP.mk ⟨true,rfl,fun _=>⟨hb h,fun p hp=>?_,by omega⟩⟩
     obtain ⟨j,hj,rfl⟩:=List.getElem_of_mem hp
     exact k2 j hj (by omega)
end Go.Proofs.YtefnikpoimaiiaaGreat

namespace Go.Pal
open Go.RowKit

theorem Sound.first {P:Program} {f:FuncId} {pre:List Value→Hp→Prop} {post:List Value→Hp→Value→Prop} (w:Value) (h:Sound P f id (.sca pre post)) :
  Sound P f (fun a=>(#[w]:Array Value).toList++a++(#[]:Array Value).toList) (.sca (fun a G=>pre (w :: a) G) (fun a G v=>post (w :: a) G v)):=fun args G W hs hp=>by
 have:=h (w :: args) G W hs hp
 simpa using this
theorem Sound.bare {P:Program} {f:FuncId} {s:PSpec} (h:Sound P f id s):Sound P f (fun a=>(#[]:Array Value).toList++a++(#[]:Array Value).toList) s:=by
 have:(fun args:List Value=>(#[]:Array Value).toList++args++(#[]:Array Value).toList) = id:=by funext a;simp
 rw [this];exact h
/-! ### Maps -/
theorem keyFind_of' {P:Program} {k:TypeId} (L:Maps.Keyed P k) {x:Value} {lx:Lit} (hx:keyOf P k x = some lx) (hs:Instr.sameBits 10000 x x = true) {es:Array MapEntry} (hall:∀ e∈es.toList, ∃ l,keyOf P k e.key = some l) (hnd:(es.toList.map (·.key)).Nodup) :
  (KeyFind P k x es none∧∀ e∈es.toList,e.key≠x)∨∃ (j:Nat) (e:MapEntry),KeyFind P k x es (some j)∧es[j]? = some e∧e.key = x:=by
 by_cases hex:∃ e∈es.toList,e.key = x
 ·right
  obtain ⟨e,he,hk⟩:=hex
  obtain ⟨j,hj,hje⟩:=List.getElem_of_mem he
  have hj':es.toList[j]? = some e:=by rw [List.getElem?_eq_getElem hj,hje]
  refine ⟨j,e,⟨fun W em=>L.check W em hx,fun W=>?_,fun i hi=>?_⟩,by simpa using hj',hk⟩
  ·rcases L.find W hx es.toList hall with ⟨_,h2⟩ | ⟨i,e',h1,h2,h3⟩
   ·exact absurd hk (h2 e he)
   ·have k1:(es.toList.map (·.key))[i]? = some x:=by simp only [List.getElem?_map,h2,Option.map_some,h3]
    have k2:(es.toList.map (·.key))[j]? = some x:=by simp only [List.getElem?_map,hj',Option.map_some,hk]
    have l1:=(List.getElem?_eq_some_iff.1 k1).1
    have:i = j:=(List.getElem?_inj l1 hnd).1 (k1.trans k2.symm)
    subst this
    rw [h1]
    have h2':es[i]? = some e':=by simpa using h2
    simp [mapAt,h2']
  ·cases hi
   have hj'':es[j]? = some e:=by simpa using hj'
   simp only [hj'',Option.map_some,Option.getD_some,hk];exact hs
 ·left
  have hno:∀ e∈es.toList,e.key≠x:=fun e he hk=>hex ⟨e,he,hk⟩
  refine ⟨⟨fun W em=>L.check W em hx,fun W=>?_,fun i hi=>by cases hi⟩,hno⟩
  rcases L.find W hx es.toList hall with ⟨h1,_⟩ | ⟨i,e',h1,h2,h3⟩
  ·exact h1
  ·exact absurd h3 (hno e' (List.mem_of_getElem? h2))
structure MapIs {κ:Type} (P:Program) (k:TypeId) (val:κ→Value) (es:Array MapEntry) (m:κ→Option Value):Prop where
 ex:∃ D:List (κ × Value),es.toList.map (fun e=>(e.key,e.val)) = D.map (fun p=>(val p.1,p.2))∧(∀ p∈D, ∃ l,keyOf P k (val p.1) = some l)∧(D.map (·.1)).Nodup∧(∀ p∈D,m p.1 = some p.2)∧∀ x,(∀ p∈D,p.1≠x)→m x = none
theorem MapIs.nil {κ:Type} {P:Program} {k:TypeId} {val:κ→Value}:MapIs P k val #[] (fun _=>none):=⟨[],rfl,(fun p h=>by cases h),List.nodup_nil,(fun p h=>by cases h),fun _ _=>rfl⟩
def lookD (z:Value) (ok:Bool):Option Value→Value
 | some v=>match ok with
  | true=>.tuple #[v, .bool true]
  | false=>v
 | none=>match ok with
  | true=>.tuple #[z, .bool false]
  | false=>z
theorem MapIs.find {κ:Type} [DecidableEq κ] {P:Program} {k:TypeId} {val:κ→Value} (L:Maps.Keyed P k) (hinj:∀ x y,val x = val y→x = y) {es:Array MapEntry} {m:κ→Option Value} (h:MapIs P k val es m) {x:κ} {lx:Lit} (hx:keyOf P k (val x) = some lx) (hs:Instr.sameBits 10000 (val x) (val x) = true) :
  ∃ r,KeyFind P k (val x) es r∧(∀ z ok,lookV z ok es r = lookD z ok (m x))∧∀ c v,MapIs P k val (putE es c (val x) v r).1 (fun y=>if y = x then some v else m y):=by
 obtain ⟨D,h1,h2,h3,h4,h5⟩:=h.ex
 have hmem:∀ e∈es.toList, ∃ p∈D,e.key = val p.1∧e.val = p.2:=fun e he=>by
  have:(e.key,e.val)∈es.toList.map (fun e=>(e.key,e.val)):=List.mem_map.2 ⟨e,he,rfl⟩
  rw [h1] at this
  obtain ⟨p,hp,e1⟩:=List.mem_map.1 this
  simp only [Prod.mk.injEq] at e1
  exact ⟨p,hp,e1.1.symm,e1.2.symm⟩
 have hkeys:es.toList.map (·.key) = D.map fun p=>val p.1:=by
  have:=congrArg (List.map Prod.fst) h1
  simpa [List.map_map,Function.comp_def] using this
 have hnd:(es.toList.map (·.key)).Nodup:=by
  rw [hkeys]
  have:(D.map fun p=>val p.1) = (D.map (·.1)).map val:=by simp [List.map_map,Function.comp_def]
  rw [this]
  exact h3.map _ (fun a b hab e=>hab (hinj _ _ e))
 have hall:∀ e∈es.toList, ∃ l,keyOf P k e.key = some l:=fun e he=>by
  obtain ⟨p,hp,e1,_⟩:=hmem e he
  rw [e1];exact h2 p hp
 rcases keyFind_of' L hx hs hall hnd with ⟨k1,k2⟩ | ⟨j,e,k1,k2,k3⟩
 ·have hno:∀ p∈D,p.1≠x:=fun p hp e=>by
   have:val p.1∈es.toList.map (·.key):=by rw [hkeys];exact List.mem_map.2 ⟨p,hp,rfl⟩
   obtain ⟨e',he',e1⟩:=List.mem_map.1 this
   exact k2 e' he' (by rw [e1,e])
  have hn:=h5 x hno
  refine ⟨none,k1,fun z ok=>by rw [hn];cases ok<;>rfl,fun c v=>⟨D++[(x,v)], ?_,fun p hp=>?_, ?_,fun p hp=>?_,fun y hy=>?_⟩⟩
  ·simp only [putE,Array.toList_push,List.map_append,h1,List.map_cons,List.map_nil]
  ·rcases List.mem_append.1 hp with hp | hp
   ·exact h2 p hp
   ·simp at hp;subst hp;exact ⟨_,hx⟩
  ·simp only [List.map_append,List.map_cons,List.map_nil]
   rw [List.nodup_append]
   refine ⟨h3,by simp,fun a ha b hb=>?_⟩
   simp at hb;subst hb
   obtain ⟨p,hp,rfl⟩:=List.mem_map.1 ha
   exact hno p hp
  ·rcases List.mem_append.1 hp with hp | hp
   ·rw [if_neg (hno p hp)];exact h4 p hp
   ·simp at hp;subst hp;simp
  ·have hyx:y≠x:=fun e=>hy (x,v) (by simp) e.symm
   rw [if_neg hyx]
   exact h5 y fun p hp=>hy p (by simp [hp])
 ·have k2':es.toList[j]? = some e:=by simpa using k2
  have hj:D[j]? = some (x,e.val):=by
   have:=congrArg (·[j]?) h1
   simp only [List.getElem?_map,k2',Option.map_some] at this
   cases hd:D[j]? with
   | none=>rw [hd] at this;cases this
   | some p =>
    rw [hd] at this
    simp only [Option.map_some,Option.some.injEq,Prod.mk.injEq] at this
    have e1:p.1 = x:=hinj _ _ (by rw [← this.1,k3])
    rw [show p = (p.1,p.2) from rfl,e1, ← this.2]
  have hm:=h4 _ (List.mem_of_getElem? hj)
  refine ⟨some j,k1,fun z ok=>by rw [hm];cases ok<;>simp [lookV,lookD,mapAt,k2],fun c v=>⟨D.set j (x,v), ?_,fun p hp=>?_, ?_,fun p hp=>?_,fun y hy=>?_⟩⟩
  ·apply List.ext_getElem?
   intro i
   have hi:=congrArg (·[i]?) h1
   simp only [List.getElem?_map] at hi
   simp only [putE,List.getElem?_map,Array.getElem?_toList,Array.getElem?_modify,List.getElem?_set]
   by_cases hij:j = i
   ·subst hij
    have hlt:j < D.length:=(List.getElem?_eq_some_iff.1 hj).1
    simp [k2,hlt]
   ·rw [if_neg hij,if_neg hij]
    rw [← hi];simp
  ·rcases List.mem_or_eq_of_mem_set hp with hp | rfl
   ·exact h2 p hp
   ·exact ⟨_,hx⟩
  ·have:(D.set j (x,v)).map (·.1) = D.map (·.1):=by
    rw [List.map_set]
    apply List.ext_getElem?
    intro i
    rw [List.getElem?_set]
    split
    ·rename_i hij
     subst hij
     simp only [List.getElem?_map,hj,Option.map_some,List.length_map]
     rw [if_pos (List.getElem?_eq_some_iff.1 hj).1]
    ·rfl
   rw [this];exact h3
  ·obtain ⟨i,hi⟩:=List.getElem?_of_mem hp
   rw [List.getElem?_set] at hi
   split at hi
   ·split at hi
    ·cases hi;simp
    ·cases hi
   ·rename_i hij
    have hpx:p.1≠x:=fun e=>by
     have q1:(D.map (·.1))[i]? = some x:=by simp [hi,e]
     have q2:(D.map (·.1))[j]? = some x:=by simp [hj]
     exact hij ((List.getElem?_inj (List.getElem?_eq_some_iff.1 q2).1 h3).1 (q2.trans q1.symm))
    rw [if_neg hpx]
    exact h4 p (List.mem_of_getElem? hi)
  ·have hyx:y≠x:=fun e=>hy (x,v) (List.mem_of_getElem? (by rw [List.getElem?_set,if_pos rfl,if_pos (List.getElem?_eq_some_iff.1 hj).1])) e.symm
   rw [if_neg hyx]
   refine h5 y fun p hp e=>?_
   obtain ⟨i,hi⟩:=List.getElem?_of_mem hp
   by_cases hij:j = i
   ·subst hij;rw [hj] at hi;cases hi;exact hyx e.symm
   ·exact hy p (List.mem_of_getElem? (by rw [List.getElem?_set,if_neg hij];exact hi)) e
def ISet (P:Program) (k:TypeId) (es:Array MapEntry) (s:Int→Bool):Prop:=MapIs P k I es (fun x=>if s x then some (.bool true) else none)
theorem wf_i64' {a:Int} (h:inR .i64 a):(Lit.int .i64 a).wf = true:=by
 simp only [inR] at h
 simp only [Lit.wf,Bool.and_eq_true,decide_eq_true_eq]
 exact h
theorem ISet.nil {P:Program} {k:TypeId}:ISet P k #[] (fun _=>false):=MapIs.nil
theorem ISet.find {P:Program} {k:TypeId} (hk:P.underlying k = some (.int .i64)) {es:Array MapEntry} {s:Int→Bool} (h:ISet P k es s) {x:Int} (hx:inR .i64 x) :
  ∃ r,KeyFind P k (I x) es r∧lookV (.bool false) false es r = .bool (s x)∧∀ c,ISet P k (putE es c (I x) (.bool true) r).1 (fun y=>s y || decide (y = x)):=by
 obtain ⟨r,h1,h2,h3⟩:=MapIs.find (Maps.int_keyed hk) (fun x y e=>by cases e;rfl) h (Maps.keyOf_int_mk hk (wf_i64' hx)) (by simp [Instr.sameBits])
 refine ⟨r,h1, ?_,fun c=>?_⟩
 ·rw [h2];cases s x<;>rfl
 ·have:=h3 c (.bool true)
  unfold ISet
  have e:(fun y=>if (s y || decide (y = x)) = true then some (Value.bool true) else none) = fun y=>if y = x then some (Value.bool true) else if s y then some (Value.bool true) else none:=by
   funext y
   by_cases hy:y = x<;>simp [hy]
  rw [e];exact this
end Go.Pal

namespace Go.Proofs.YtefnikpoimaiiaaGreat
open Go.Pal Go.RowKit
set_option maxRecDepth 100000
theorem in142:Sound Tryz.prog 142 id inS:=by
 refine comp142.fn (Tab.nil _) (fun args G h=>?_) (fun args G h=>?_)
 ·obtain ⟨n,lo,hi,rfl⟩:=h;simp
 ·obtain ⟨n,lo,hi,rfl⟩:=h
  (conv=>whnf)
  repeat' (first | (refine IteP.mk (fun _=>W.mk ?_) (fun _=>W.mk ?_)<;>(conv=>whnf)) | (refine ob ?_ ?_;(first | trivial | omega | (simp only [inR];omega) | exact ble (by rfl) | exact SlR.some ‹_› (by omega));(conv=>whnf)) | (refine ForkP.mk (fun _=>W.mk ?_) (fun _=>W.mk ?_)<;>(conv=>whnf)) | (refine ra ‹_› (by rfl) ?_;(conv=>whnf)) | (refine rb ‹_› (by rfl) ?_;(conv=>whnf)) | (refine rc ‹_› (by rfl) ?_;(conv=>whnf)) | (refine rd ‹_› (by rfl) ?_;(conv=>whnf)) | (refine FinP.mk ?_))
  all_goals (refine congrArg Value.bool ?_;simp [inF, *])
theorem char195:Sound Tryz.prog 195 id (gsca (fun args _ (c:Int)=>args = [U8 c]∧33≤c∧c≤126) fun _ v=>v = .bool true):=by
 refine comp195.gsca (Tab.nil _) (fun args G s h=>?_) (fun args G c h=>?_)
 ·obtain ⟨rfl,_⟩:=h;simp
 ·obtain ⟨rfl,h1,h2⟩:=h
  (conv=>whnf)
  refine IteP.mk (fun _=>W.mk ?_) (fun h=>absurd h1 h)
  (conv=>whnf)
  refine IteP.mk (fun _=>W.mk ?_) (fun h=>absurd h2 h)
  (conv=>whnf)
  exact FinP.mk rfl
theorem flat1 {α β:Type} (g:α→β) (l:List α):(l.map fun x=>[g x]).flatten = l.map g:=by
 induction l with
 | nil=>rfl
 | cons x r ih=>simp [ih]
theorem TestS.of {α:Type} {val:α→Value} {p:α→Bool} {q:α→Prop} {J:Hp→Prop} {f:FuncId} {sh:List Value→List Value} {pre:List Value→Hp→Prop} {post:List Value→Hp→Value→Prop} (h:Sound Tryz.prog f sh (.sca pre post)) (h1:∀ x G,q x→J G→pre [val x] G) (h2:∀ x G v,q x→J G→post [val x] G v→v = .bool (p x)):Sound Tryz.prog f sh (TestS val p q J []):=by
 refine ⟨fun _ _ _ _ _ _ _ h=>h,fun args ls G W hs _ _ hp=>?_⟩
 obtain ⟨rfl,hj,x,rfl,hx⟩:=hp
 refine (h [val x] G W hs (h1 x G hx hj)).mono ?_
 rintro e W' ⟨v,rfl,hv,hB⟩
 exact ⟨v,[],G,rfl,⟨rfl,x,rfl,h2 x G v hx hj hv⟩,rfl,Grow.refl _,fun b o e=>by
  have h1:=hs b o e
  rw [hB.block b (Array.getElem?_eq_some_iff.1 h1).1];exact h1,fun b o e=>.inl e,below_beneath hB⟩
theorem beneath0 {W W':World} (h:Beneath ⟨W,lentW [],[]⟩ W'):Below W.heap.size W W':=⟨h.os,h.tape,h.output,h.size,fun k hk=>h.block k hk (fun ⟨_,hx,_⟩=>by cases hx)⟩
theorem allT {α:Type} {e:El α} {A:FuncId} {right:Value} {q:α→Prop} {J:Hp→Prop} (h:Sound Tryz.prog A id (AllS e right (fun xs=>.bool (xs.all fun _=>true)) q J [])) (xs:List α):Sound Tryz.prog A id (.sca (fun args G=>J G∧∃ w,args = [w,right]∧SlV e G w xs∧∀ x∈xs,q x) fun _ _ v=>v = .bool true):=fun args G W hs ⟨hj,w,ha,hv,hq⟩=>by
 refine (h.2 args [] G W hs (fun x hx=>by cases hx) (by simp) ⟨rfl,hj,w,xs,ha,hv,hq⟩).mono ?_
 rintro en W' ⟨v,ns,G',rfl,⟨rfl,w',xs',_,_,h2⟩,_,_,_,_,hB⟩
 exact ⟨v,rfl,by rw [h2];simp,beneath0 hB⟩
def okT {α:Type} (f:FuncId) (val:α→Value) (Q:Hp→α→Prop):Prop:=Sound Tryz.prog f id (gsca (fun args G x=>args = [val x]∧Q G x) fun _ v=>v = .bool true)
theorem okT.test {α:Type} {f:FuncId} {val:α→Value} {Q:Hp→α→Prop} (h:okT f val Q) (hinj:∀ x y,val x = val y→x = y) (hb:HasBody Tryz.prog f) (G:Hp) (hg:∀ G' x,Grow G G'→Q G x→Q G' x):SoundFn Tryz.prog (.func (.func f) #[] #[]) (TestS val (fun _=>true) (Q G) (Grow G) []) :=
 SoundFn.of hb (Sound.bare (TestS.of h (fun x G' hx hj=>⟨x,rfl,hg G' x hj hx⟩) (fun x G v _ _ ⟨_,_,h⟩=>h)))
theorem word138:okT 138 (fun s=>Value.string s) fun _ s=>GoodW s:=by
 refine comp138.gsca (Tab.cons 142 _ in142 body142 (Tab.nil _)) (fun args G s h=>?_) (fun args G s h=>?_)
 ·obtain ⟨rfl,_⟩:=h;simp
 ·obtain ⟨rfl,hs⟩:=h
  have hn:=hs.n
  have hin:inF s.size 1 20 = true:=by simp only [inF,decide_eq_true_eq];omega
  (conv=>whnf)
  refine OblP.mk ⟨_,_,_,rfl⟩ (W.mk ?_)
  (conv=>whnf)
  refine ForkP.mk (fun _=>W.mk ?_) (fun h=>absurd ((hin).symm.trans h) (by decide))
  (conv=>whnf)
  refine RelP.mk trivial (fun v G1 hg hq1=>W.mk ?_)
  obtain ⟨ba,bc,rfl,hpr⟩:=hq1
  (conv=>whnf)
  refine CallN.mk ⟨_,allT (all194 195 #[] #[] (fun _=>true) (fun c:Int=>33≤c∧c≤126) (Grow G1) (fun _ _ h h'=>h'.trans h) (okT.test (Q:=fun _ c=>33≤c∧c≤126) char195 (fun x y h=>by cases h;rfl) body195 G1 (fun _ _ _ h=>h))) (bytesL s),body194,W.mk ?_⟩
  (conv=>whnf)
  refine ScaP.mk ⟨Grow.refl _,_,rfl,hpr.slV (by
   show _ = ((bytesL s).map fun x=>[U8 x]).flatten
   rw [flat1,bytesL,List.map_map];rfl) (by simp [bytesL]) (by omega),hs.b⟩ (fun v hv=>W.mk ?_)
  subst hv
  (conv=>whnf)
  refine ForkP.mk (fun _=>W.mk ?_) (fun h=>by cases h)
  (conv=>whnf)
  exact FinP.mk rfl
theorem few135:okT 135 pcV fun _ x=>x.k≤60:=by
 refine comp135.gsca (Tab.nil _) (fun args G s h=>?_) (fun args G x h=>?_)
 ·obtain ⟨rfl,_⟩:=h;simp
 ·obtain ⟨rfl,hx⟩:=h
  (conv=>whnf)
  refine IteP.mk (fun _=>W.mk ?_) (fun h=>absurd (show (x.k:Int)≤60 by omega) h)
  (conv=>whnf)
  exact FinP.mk rfl
theorem strInj:∀ x y:ByteArray,Value.string x = Value.string y→x = y:=fun x y h=>by cases h;rfl
theorem good139:okT 139 pcV fun G x=>∃ ws,SlV strE G x.sl ws∧∀ s∈ws,GoodW s:=by
 refine comp139.gsca (Tab.nil _) (fun args G s h=>?_) (fun args G x h=>?_)
 ·obtain ⟨rfl,_⟩:=h;simp
 ·obtain ⟨rfl,ws,h1,h2⟩:=h
  (conv=>whnf)
  refine CallN.mk ⟨_,allT (all137 138 #[] #[] (fun _=>true) GoodW (Grow G) (fun _ _ h h'=>h'.trans h) (okT.test (Q:=fun _ s=>GoodW s) word138 strInj body138 G (fun _ _ _ h=>h))) ws,body137,W.mk ?_⟩
  (conv=>whnf)
  refine ScaP.mk ⟨Grow.refl _,_,rfl,h1,h2⟩ (fun v hv=>W.mk ?_)
  subst hv
  (conv=>whnf)
  refine ForkP.mk (fun _=>W.mk ?_) (fun h=>by cases h)
  (conv=>whnf)
  exact FinP.mk rfl
theorem num141:okT 141 pcV fun _ x=>1≤x.n∧x.n≤999:=by
 refine comp141.gsca (Tab.cons 142 _ in142 body142 (Tab.nil _)) (fun args G s h=>?_) (fun args G x h=>?_)
 ·obtain ⟨rfl,_⟩:=h;simp
 ·obtain ⟨rfl,hx⟩:=h
  have hin:inF x.n 1 999 = true:=by simp only [inF,decide_eq_true_eq];omega
  (conv=>whnf)
  refine OblP.mk ⟨_,_,_,rfl⟩ (W.mk ?_)
  (conv=>whnf)
  refine ForkP.mk (fun _=>W.mk ?_) (fun h=>absurd ((hin).symm.trans h) (by decide))
  (conv=>whnf)
  exact FinP.mk rfl
/-! ### Papers by their numbers -/
theorem und3:Tryz.prog.underlying 3 = some (.int .i64):=by kernel_rfl
def numF (l:List Pp) (x:Int):Option Value:=(l.find? fun p=>decide (p.c.n = x)).map fun p=>pcV p.c
def NumIs (es:Array MapEntry) (l:List Pp):Prop:=MapIs Tryz.prog 3 I es (numF l)
theorem NumIs.find {es:Array MapEntry} {l:List Pp} (h:NumIs es l) {x:Int} (hx:inR .i64 x):∃ r,KeyFind Tryz.prog 3 (I x) es r∧(∀ z ok,lookV z ok es r = lookD z ok (numF l x))∧∀ c v,MapIs Tryz.prog 3 I (putE es c (I x) v r).1 (fun y=>if y = x then some v else numF l y) :=
 MapIs.find (Maps.int_keyed und3) (fun x y e=>by cases e;rfl) h (Maps.keyOf_int_mk und3 (wf_i64' hx)) (by simp [Instr.sameBits])
theorem numF_put {l:List Pp} {p:Pp} (h:∀ q∈l,q.c.n≠p.c.n):(fun y=>if y = p.c.n then some (pcV p.c) else numF l y) = numF (l++[p]):=by
 funext y
 unfold numF
 rw [List.find?_append]
 by_cases hy:y = p.c.n
 ·subst hy
  have:(l.find? fun q=>decide (q.c.n = p.c.n)) = none:=by
   rw [List.find?_eq_none]
   intro q hq;simpa using h q hq
  rw [if_pos rfl,this]
  simp
 ·rw [if_neg hy]
  have:([p].find? fun q=>decide (q.c.n = y)) = none:=by
   rw [List.find?_eq_none]
   intro q hq
   simp at hq;subst hq
   simpa using fun e=>hy e.symm
  rw [this,Option.or_none]
def NumV (v:Value) (G:Hp) (m:Mt):Prop:=∃ b es c,v = .map (some b)∧G b = some (.map es c)∧NumIs es m.ps
theorem NumV.grow {v:Value} {G G':Hp} {m:Mt} (hg:Grow G G') (h:NumV v G m):NumV v G' m:=by
 obtain ⟨b,es,c,e,h1,h2⟩:=h
 exact ⟨b,es,c,e,hg _ _ h1,h2⟩
def numOk (m:Mt):Prop:=(m.ps.map (·.c.n)).Nodup∧∀ p∈m.ps,1≤p.c.n∧p.c.n≤999
theorem take_snoc {α:Type} {l:List α} {i:Nat} {x:α} (h:l[i]? = some x):l.take (i + 1) = l.take i++[x]:=by
 rw [List.take_add_one,h];rfl
theorem numbered66:Sound Tryz.prog 66 id (grel (args1 moRd numOk) fun m v G=>NumV v G m):=by
 refine comp66.grel (Tab.nil _) (ok1 _ _) (fun args G s h=>?_) (fun x v G G' hg h=>h.grow hg) (fun args G m h=>?_)
 ·obtain ⟨v,rfl,_⟩:=h;simp
 ·obtain ⟨v,rfl,⟨w0,a,n,c,rfl,hw,hl,hn,hp⟩,hnd,hnum⟩:=h
  have hln:=hl.len
  have hcl:m.cs.length = m.ps.length:=by simp
  obtain ⟨wa,wn,wc,rfl,_⟩:=id hw
  (conv=>whnf)
  refine LoopP.of { α:=Nat × Array MapEntry × Nat,fr:=fun z=>[(1, .c (.ptr 0 0)),(3, .c (.mref 2)),(8, .v (.slice a n c)),(9, .v (I n)),(10, .v (I z.1))],H:=fun z=>[(0, .cells .anon [.val (.slice wa wn wc), .val (.slice a n c)] 38),(2, .map .anon z.2.1 z.2.2)],ok:=fun z _=>z.1≤n∧NumIs z.2.1 (m.ps.take z.1),m:=fun z=>n - z.1 }
   (0, #[],0) (HeadP.of [] ⟨rfl,rfl,rfl,rfl,rfl,trivial⟩ ⟨rfl,rfl,trivial⟩) ⟨Nat.zero_le _,MapIs.nil⟩ (fun _=>⟨rfl,rfl⟩) (fun z G' hG hz=>W.mk ?_)
  obtain ⟨i,es,ck⟩:=z
  obtain ⟨k1,k2⟩:=hz
  dsimp only at k1 k2
  dsimp only
  replace hl:=SlR.grow (G:=G) (G':=G') (fun _ _ h=>h) hl hG
  (conv=>whnf)
  refine IteP.mk (fun hlt=>W.mk ?_) (fun hge=>W.mk ?_)<;>(conv=>whnf)
  ·have hlt:i < m.ps.length:=by have hlt:(i:Int) < n:=hlt;omega
   have hel:=hl.el (i:=i) (by omega)
   rw [cs_get hlt] at hel
   have hni:=hnum _ (List.getElem_mem hlt)
   obtain ⟨r,q1,_,q3⟩:=k2.find (x:=m.ps[i].c.n) (by simp only [inR];omega)
   have q4:=q3 ck (pcV m.ps[i].c)
   rw [numF_put, ← take_snoc (List.getElem?_eq_getElem hlt)] at q4
   rotate_left
   ·intro q hq e
    obtain ⟨j,hj,rfl⟩:=List.getElem_of_mem hq
    simp only [List.getElem_take,List.length_take] at e hj
    exact List.pairwise_iff_getElem.1 hnd j i (by simp;omega) (by simpa using hlt) (by omega) (by simpa using e)
   refine OblP.mk ⟨by omega,by omega⟩ (W.mk ?_)
   (conv=>whnf)
   refine OblP.mk (hl.some (by omega)) (W.mk ?_)
   (conv=>whnf)
   refine RdP.at (cs:=pcL m.ps[i].c) hel rfl (W.mk ?_)
   (conv=>whnf)
   refine KeyP.mk ⟨r,q1,W.mk ?_⟩
   (conv=>whnf)
   (refine ob ?_ ?_;(first | trivial | omega | (simp only [inR];omega) | exact ble (by rfl) | exact SlR.some ‹_› (by omega));(conv=>whnf))
   exact RoundP.of (i + 1,_,_) (HeadP.of [] ⟨rfl,rfl,rfl,rfl,rfl,trivial⟩ ⟨rfl,rfl,trivial⟩) ⟨by show i + 1≤n;omega,q4⟩ (by show n - (i + 1) < n - i;omega)
  ·have hge:¬ (i:Int) < n:=hge
   rw [List.take_of_length_le (by omega)] at k2
   refine PubMP.mk (fun b G2 hg2 hb=>W.mk ?_)
   (conv=>whnf)
   exact FinP.mk ⟨b,es,ck,rfl,hb,k2⟩
end Go.Proofs.YtefnikpoimaiiaaGreat

namespace Go.Proofs.YtefnikpoimaiiaaGreat
open Go.Pal Go.RowKit
set_option maxRecDepth 100000
theorem words38:Sound Tryz.prog 38 id (grel (args2 moRd intRd fun m x=>numOk m∧inR .i64 x) fun x v G=>SlV strE G v (wOf x.1 x.2)):=by
 refine comp38.grel (Tab.cons 66 _ numbered66 body66 (Tab.nil _)) (ok2 _ _ _) (fun args G s h=>?_) (fun x v G G' hg h=>h.grow hg) (fun args G s h=>?_)
 ·obtain ⟨v,w,rfl,_⟩:=h;simp
 ·obtain ⟨m,x⟩:=s
  obtain ⟨v,w,rfl,hm,rfl,hno,hx⟩:=h
  have hm0:=hm
  obtain ⟨w0,a,n,c,rfl,hw,hl,hn,hp⟩:=hm
  dsimp only at hl hw hp hx hm0 hno
  dsimp only
  have hw0:=hw
  obtain ⟨wa,wn,wc,rfl,_⟩:=hw
  (conv=>whnf)
  refine IteP.mk (fun h0=>W.mk ?_) (fun h0=>W.mk ?_)<;>(conv=>whnf)
  ·have h0:x = 0:=h0
   refine FinP.mk ?_
   show SlV strE G (.slice wa wn wc) (wOf m x)
   rw [wOf,if_pos h0]
   exact hw0
  ·have h0:¬ x = 0:=h0
   refine RelP.g (ok1 moRd numOk) (x:=m) ⟨_,rfl,hm0,hno⟩ (Grow.refl _) (fun v G1 hg1 hq=>W.mk ?_)
   obtain ⟨b,es,ck,rfl,hb,hes⟩:=hq
   (conv=>whnf)
   refine RdmP.mk ⟨es,ck,hb,W.mk ?_⟩
   (conv=>whnf)
   obtain ⟨r,q1,q2,_⟩:=hes.find hx
   refine KeyP.mk ⟨r,q1,W.mk ?_⟩
   dsimp only
   rw [q2]
   have hnf:numF m.ps x = (pOf m x).map fun p=>pcV p.c:=rfl
   rw [hnf]
   have hwo:wOf m x = match pOf m x with
    | some p=>p.ws
    | none=>[]:=by rw [wOf,if_neg h0];rfl
   cases hpo:pOf m x with
   | none =>
    rw [hpo] at hwo
    (conv=>whnf)
    refine FinP.mk ?_
    show SlV strE G1 (.slice none 0 0) (wOf m x)
    rw [hwo]
    exact SlV.nil
   | some p =>
    rw [hpo] at hwo
    (conv=>whnf)
    refine FinP.mk ?_
    show SlV strE G1 p.c.sl (wOf m x)
    rw [hwo]
    exact SlV.grow hg1 (hp p (pOf_mem hpo).1)
end Go.Proofs.YtefnikpoimaiiaaGreat

namespace Go.Proofs.YtefnikpoimaiiaaGreat
open Go.Pal Go.RowKit
set_option maxRecDepth 100000
theorem numOk' (m:Mt) (h:MtOk m):numOk m:=⟨h.nd,h.num⟩
theorem of_rng {m:Mt} (h:MtOk m) {p:Pp} (hp:p∈m.ps):0≤p.c.of∧p.c.of≤999:=by
 by_cases h0:p.c.of = 0
 ·rw [h0];decide
 ·obtain ⟨q,hq⟩:=h.of p hp h0
  obtain ⟨q1,q2⟩:=pOf_mem hq
  have:=h.num q q1
  omega
def JN (m:Mt) (mb:Nat) (G:Hp):Prop:=∃ es c,G mb = some (.map es c)∧NumIs es m.ps
theorem JN.grow {m:Mt} {mb:Nat} (G G':Hp) (hg:Grow G G') (h:JN m mb G):JN m mb G':=by
 obtain ⟨es,c,h1,h2⟩:=h
 exact ⟨es,c,hg _ _ h1,h2⟩
theorem of145 (m:Mt) (hm:MtOk m) (bn mb:Nat):Sound Tryz.prog 145 (fun a=>(#[]:Array Value).toList++a++(#[bptr bn]:Array Value).toList) (TestS pcV (fun _=>true) (fun x=>∃ p∈m.ps,x = p.c) (JN m mb) [⟨bn,false, .cells [.map (some mb)] 176⟩]):=by
 refine ⟨fun args ls v ns G G' hg h=>h,fun args ls G Wd hsub hls hnd hpre=>?_⟩
 obtain ⟨rfl,hj,x,rfl,p,hp,rfl⟩:=hpre
 refine st_sound (Tab.nil _) comp145 (svs:=[.agg [.val (I p.c.n), .val (I p.c.of), .val (I p.c.fr), .val (I p.c.to), .val p.c.sl], .c (.ptr 0 0)]) (obs:=[.cells (.named bn) [.val (.map (some mb))] 176]) (by simp) hsub hls hnd (Nat.le_of_ble_eq_true rfl) ?_ ?_ ?_
 ·exact ⟨⟨[I p.c.n,I p.c.of,I p.c.fr,I p.c.to,p.c.sl],rfl,relL_vals _ [I p.c.n,I p.c.of,I p.c.fr,I p.c.to,p.c.sl]⟩,(by intro c hc;simp at hc;rcases hc with rfl | rfl | rfl | rfl | rfl<;>trivial),⟨_,rfl,rfl⟩,(Nat.le_of_ble_eq_true rfl:0 < 1),trivial⟩
 ·exact ⟨⟨_,rfl,relL_vals _ [.map (some mb)],(by intro c hc;simp at hc;subst hc;trivial)⟩,trivial⟩
 ·(conv=>whnf)
  refine IteP.mk (fun h0=>W.mk ?_) (fun h0=>W.mk ?_)<;>(conv=>whnf)
  ·exact FinS.mk ⟨[],⟨.cells [.map (some mb)] 176,⟨_,rfl,rfl⟩,trivial,rfl,rfl⟩,rfl,p.c,rfl,rfl⟩
  ·have h0:¬ p.c.of = 0:=h0
   obtain ⟨es,ck,hb,hes⟩:=hj
   refine RdmP.mk ⟨es,ck,hb,W.mk ?_⟩
   (conv=>whnf)
   have hr:=of_rng hm hp
   obtain ⟨r,q1,q2,_⟩:=hes.find (x:=p.c.of) (by simp only [inR];omega)
   refine KeyP.mk ⟨r,q1,W.mk ?_⟩
   dsimp only
   obtain ⟨q,hq⟩:=hm.of p hp h0
   have hnf:numF m.ps p.c.of = some (pcV q.c):=by show (pOf m p.c.of).map (fun p=>pcV p.c) = _;rw [hq];rfl
   rw [q2,hnf]
   (conv=>whnf)
   refine IteP.mk (fun h1=>W.mk ?_) (fun h1=>absurd (pOf_mem hq).2 h1)
   (conv=>whnf)
   exact FinS.mk ⟨[],⟨.cells [.map (some mb)] 176,⟨_,rfl,rfl⟩,trivial,rfl,rfl⟩,rfl,p.c,rfl,rfl⟩
theorem rng148 (m:Mt) (hm:MtOk m) (bm:Nat) (w pv:Value):Sound Tryz.prog 148 (fun a=>(#[]:Array Value).toList++a++(#[bptr bm]:Array Value).toList) (TestS pcV (fun _=>true) (fun x=>∃ p∈m.ps,x = p.c) (fun G=>MoV G (.agg #[w,pv]) m) [⟨bm,false, .cells [w,pv] 38⟩]):=by
 refine ⟨fun args ls v ns G G' hg h=>h,fun args ls G Wd hsub hls hnd hpre=>?_⟩
 obtain ⟨rfl,hj,x,rfl,p,hp,rfl⟩:=hpre
 have hj0:=hj
 obtain ⟨w0,a,n,c,e,⟨wa,wn,wc,rfl,_⟩,_⟩:=hj
 simp only [Value.agg.injEq,Array.mk.injEq,List.cons.injEq,and_true] at e
 obtain ⟨rfl,rfl⟩:=e
 refine st_sound (Tab.cons 38 _ words38 body38 (Tab.nil _)) comp148 (svs:=[.agg [.val (I p.c.n), .val (I p.c.of), .val (I p.c.fr), .val (I p.c.to), .val p.c.sl], .c (.ptr 0 0)]) (obs:=[.cells (.named bm) [.val (.slice wa wn wc), .val (.slice a n c)] 38]) (by simp) hsub hls hnd (Nat.le_of_ble_eq_true rfl) ?_ ?_ ?_
 ·exact ⟨⟨[I p.c.n,I p.c.of,I p.c.fr,I p.c.to,p.c.sl],rfl,relL_vals _ [I p.c.n,I p.c.of,I p.c.fr,I p.c.to,p.c.sl]⟩,(by intro c hc;simp at hc;rcases hc with rfl | rfl | rfl | rfl | rfl<;>trivial),⟨_,rfl,rfl⟩,(Nat.le_of_ble_eq_true rfl:0 < 1),trivial⟩
 ·exact ⟨⟨_,rfl,relL_vals _ [.slice wa wn wc, .slice a n c],(by intro c hc;simp at hc;rcases hc with rfl | rfl<;>trivial)⟩,trivial⟩
 ·have hr:=of_rng hm hp
  have hrg:=hm.rng p hp
  (conv=>whnf)
  refine IteP.mk (fun h0=>W.mk ?_) (fun h0=>absurd hrg.1 h0)
  (conv=>whnf)
  refine IteP.mk (fun h0=>W.mk ?_) (fun h0=>absurd hrg.2.1 h0)
  (conv=>whnf)
  refine RelP.g (ok2 moRd intRd fun m x=>numOk m∧inR .i64 x) (x:=(m,p.c.of)) ⟨_,_,rfl,hj0,rfl,numOk' m hm,by simp only [inR];omega⟩ (Grow.refl _) (fun v G1 hg1 hq=>W.mk ?_)
  obtain ⟨va,vn,vc,rfl,hvl,_⟩:=hq
  have hvln:(wOf m p.c.of).length = vn:=hvl.len
  (conv=>whnf)
  refine IteP.mk (fun h0=>W.mk ?_) (fun h0=>absurd (show p.c.to≤(vn:Int) by omega) h0)
  (conv=>whnf)
  exact FinS.mk ⟨[],⟨.cells [.slice wa wn wc, .slice a n c] 38,⟨_,rfl,rfl⟩,trivial,rfl,rfl⟩,rfl,p.c,rfl,rfl⟩
end Go.Proofs.YtefnikpoimaiiaaGreat

namespace Go.Proofs.YtefnikpoimaiiaaGreat
open Go.Pal Go.RowKit
set_option maxRecDepth 100000
def moR:GRel Mt:=args1 moRd MtOk
theorem mem_cs {m:Mt} {x:Pc} (h:x∈m.cs):∃ p∈m.ps,x = p.c:=by
 obtain ⟨p,hp,rfl⟩:=List.mem_map.1 h
 exact ⟨p,hp,rfl⟩
theorem pp_len {G:Hp} {p:Pp} (h:PpOk G p):p.ws.length = p.c.k:=by
 obtain ⟨_,_,_,e,hs,_⟩:=h
 cases e;exact hs.len
theorem pcInj:∀ x y:Pc,pcV x = pcV y→x = y:=inj134
theorem all_true {α:Type} (l:List α):(l.all fun _=>true) = true:=by simp
theorem limit133:Sound Tryz.prog 133 id (gsca moR fun _ v=>v = .bool true):=by
 refine comp133.gsca (Tab.nil _) (fun args G s h=>?_) (fun args G m h=>?_)
 ·obtain ⟨v,rfl,_⟩:=h;simp
 ·obtain ⟨v,rfl,hm,hok⟩:=h
  have hm0:=hm
  obtain ⟨w0,a,n,c,rfl,hw,hl,hn,hp⟩:=hm
  have hln:=hl.len
  have hcl:m.cs.length = m.ps.length:=by simp
  have hw0:=hw
  obtain ⟨wa,wn,wc,rfl,hwl,hwn⟩:=hw
  have hwln:=hwl.len
  have h1:=hok.np
  have h2:=hok.nw
  (conv=>whnf)
  refine IteP.mk (fun _=>W.mk ?_) (fun h=>absurd (show (n:Int)≤10 by omega) h)
  (conv=>whnf)
  refine IteP.mk (fun _=>W.mk ?_) (fun h=>absurd (show (wn:Int)≤60 by omega) h)
  (conv=>whnf)
  refine CallN.mk ⟨_,allT (all134 135 #[] #[] (fun _=>true) (fun x=>x.k≤60) (Grow G) (fun _ _ h h'=>h'.trans h) (okT.test (Q:=fun _ x=>x.k≤60) few135 pcInj body135 G (fun _ _ _ h=>h))) m.cs,body134,W.mk ?_⟩
  (conv=>whnf)
  refine ScaP.mk ⟨Grow.refl _,_,rfl,⟨_,_,_,rfl,hl,hn⟩,fun x hx=>?_⟩ (fun v hv=>W.mk ?_)
  ·obtain ⟨p,hpm,rfl⟩:=mem_cs hx
   have:=pp_len (hp p hpm)
   have:=hok.nws p hpm
   omega
  subst hv
  (conv=>whnf)
  refine ForkP.mk (fun _=>W.mk ?_) (fun h=>by cases h)
  (conv=>whnf)
  exact FinP.mk rfl
theorem form136:Sound Tryz.prog 136 id (gsca moR fun _ v=>v = .bool true):=by
 refine comp136.gsca (Tab.nil _) (fun args G s h=>?_) (fun args G m h=>?_)
 ·obtain ⟨v,rfl,_⟩:=h;simp
 ·obtain ⟨v,rfl,hm,hok⟩:=h
  have hm0:=hm
  obtain ⟨w0,a,n,c,rfl,hw,hl,hn,hp⟩:=hm
  have hln:=hl.len
  have hcl:m.cs.length = m.ps.length:=by simp
  have hw0:=hw
  obtain ⟨wa,wn,wc,rfl,hwl,hwn⟩:=hw
  have hwln:=hwl.len
  (conv=>whnf)
  refine CallN.mk ⟨_,allT (all137 138 #[] #[] (fun _=>true) GoodW (Grow G) (fun _ _ h h'=>h'.trans h) (okT.test (Q:=fun _ s=>GoodW s) word138 strInj body138 G (fun _ _ _ h=>h))) m.ws,body137,W.mk ?_⟩
  (conv=>whnf)
  refine ScaP.mk ⟨Grow.refl _,_,rfl,hw0,hok.gw⟩ (fun v hv=>W.mk ?_)
  subst hv
  (conv=>whnf)
  refine ForkP.mk (fun _=>W.mk ?_) (fun h=>by cases h)
  (conv=>whnf)
  refine CallN.mk ⟨_,allT (all134 139 #[] #[] (fun _=>true) (fun x=>∃ ws,SlV strE G x.sl ws∧∀ s∈ws,GoodW s) (Grow G) (fun _ _ h h'=>h'.trans h) (okT.test (Q:=fun G x=>∃ ws,SlV strE G x.sl ws∧∀ s∈ws,GoodW s) good139 pcInj body139 G (by intro G' x hg h;obtain ⟨ws,h1,h2⟩:=h;exact ⟨ws,SlV.grow hg h1,h2⟩))) m.cs,body134,W.mk ?_⟩
  (conv=>whnf)
  refine ScaP.mk ⟨Grow.refl _,_,rfl,⟨_,_,_,rfl,hl,hn⟩,fun x hx=>?_⟩ (fun v hv=>W.mk ?_)
  ·obtain ⟨p,hpm,rfl⟩:=mem_cs hx
   exact ⟨p.ws,hp p hpm,hok.gws p hpm⟩
  subst hv
  (conv=>whnf)
  refine ForkP.mk (fun _=>W.mk ?_) (fun h=>by cases h)
  (conv=>whnf)
  exact FinP.mk rfl
theorem range140:Sound Tryz.prog 140 id (gsca moR fun _ v=>v = .bool true):=by
 refine comp140.gsca (Tab.nil _) (fun args G s h=>?_) (fun args G m h=>?_)
 ·obtain ⟨v,rfl,_⟩:=h;simp
 ·obtain ⟨v,rfl,hm,hok⟩:=h
  have hm0:=hm
  obtain ⟨w0,a,n,c,rfl,hw,hl,hn,hp⟩:=hm
  have hln:=hl.len
  have hcl:m.cs.length = m.ps.length:=by simp
  have hw0:=hw
  obtain ⟨wa,wn,wc,rfl,hwl,hwn⟩:=hw
  have hwln:=hwl.len
  (conv=>whnf)
  refine CallN.mk ⟨_,allT (all134 141 #[] #[] (fun _=>true) (fun x=>1≤x.n∧x.n≤999) (Grow G) (fun _ _ h h'=>h'.trans h) (okT.test (Q:=fun _ x=>1≤x.n∧x.n≤999) num141 pcInj body141 G (fun _ _ _ h=>h))) m.cs,body134,W.mk ?_⟩
  (conv=>whnf)
  refine ScaP.mk ⟨Grow.refl _,_,rfl,⟨_,_,_,rfl,hl,hn⟩,fun x hx=>?_⟩ (fun v hv=>W.mk ?_)
  ·obtain ⟨p,hpm,rfl⟩:=mem_cs hx
   exact hok.num p hpm
  subst hv
  (conv=>whnf)
  refine ForkP.mk (fun _=>W.mk ?_) (fun h=>by cases h)
  (conv=>whnf)
  exact FinP.mk rfl
theorem num_size {es:Array MapEntry} {l:List Pp} (h:NumIs es l) (hn:(l.map (·.c.n)).Nodup):es.size = l.length:=by
 obtain ⟨D,h1,_,h3,h4,h5⟩:=h.ex
 have e1:es.size = D.length:=by
  have:=congrArg List.length h1
  simpa using this
 have hmem:∀ x,x∈D.map (·.1)↔x∈l.map (·.c.n):=fun x=>by
  constructor
  ·intro hx
   obtain ⟨p,hp,rfl⟩:=List.mem_map.1 hx
   have:=h4 p hp
   unfold numF at this
   cases hf:l.find? (fun q=>decide (q.c.n = p.1)) with
   | none=>rw [hf] at this;cases this
   | some q=>exact List.mem_map.2 ⟨q,List.mem_of_find?_eq_some hf,by simpa using List.find?_some hf⟩
  ·intro hx
   by_cases hd:x∈D.map (·.1)
   ·exact hd
   ·exfalso
    have:=h5 x fun p hp e=>hd (List.mem_map.2 ⟨p,hp,e⟩)
    unfold numF at this
    rw [Option.map_eq_none_iff,List.find?_eq_none] at this
    obtain ⟨q,hq,e⟩:=List.mem_map.1 hx
    exact this q hq (by simpa using e)
 have hp:=(List.perm_ext_iff_of_nodup h3 hn).2 hmem
 have:=hp.length_eq
 simp at this
 omega
theorem none144:Sound Tryz.prog 144 id (gsca moR fun _ v=>v = .bool true):=by
 refine comp144.gsca (Tab.cons 66 _ numbered66 body66 (Tab.nil _)) (fun args G s h=>?_) (fun args G m h=>?_)
 ·obtain ⟨v,rfl,_⟩:=h;simp
 ·obtain ⟨v,rfl,hm,hok⟩:=h
  have hm0:=hm
  obtain ⟨w0,a,n,c,rfl,hw,hl,hn,hp⟩:=hm
  have hln:=hl.len
  have hcl:m.cs.length = m.ps.length:=by simp
  have hw0:=hw
  obtain ⟨wa,wn,wc,rfl,hwl,hwn⟩:=hw
  have hwln:=hwl.len
  (conv=>whnf)
  refine RelP.g (ok1 moRd numOk) (x:=m) ⟨_,rfl,hm0,numOk' m hok⟩ (Grow.refl _) (fun v G1 hg1 hq=>W.mk ?_)
  obtain ⟨mb,es,ck,rfl,hb,hes⟩:=hq
  replace hl:=SlR.grow (G:=G) (G':=G1) (fun _ _ h=>h) hl hg1
  (conv=>whnf)
  refine NameP.mk (fun bn=>W.mk ?_)
  (conv=>whnf)
  refine CallN.mk ⟨_,all134m 145 #[] #[bptr bn] (fun _=>true) (fun x=>∃ p∈m.ps,x = p.c) (JN m mb) bn mb JN.grow (SoundFn.of body145 (of145 m hok bn mb)),body134,W.mk ?_⟩
  (conv=>whnf)
  refine StP.mk ⟨[(4,⟨bn,false, .cells [.map (some mb)] 176⟩)],⟨⟨_,rfl,rfl⟩,trivial⟩,(by show ([4]:List Nat).Nodup;decide),⟨rfl,⟨es,ck,hb,hes⟩,_,m.cs,rfl,⟨a,n,c,rfl,hl,hn⟩,fun x hx=>mem_cs hx⟩,fun v ns G3 hg3 hpost=>W.mk ?_⟩
  obtain ⟨rfl,w',l',q1,q2,rfl⟩:=hpost
  dsimp only
  rw [all_true]
  (conv=>whnf)
  refine ForkP.mk (fun _=>W.mk ?_) (fun h=>by cases h)
  (conv=>whnf)
  exact FinP.mk rfl
theorem arg147:Sound Tryz.prog 147 id (gsca moR fun _ v=>v = .bool true):=by
 refine comp147.gsca (Tab.nil _) (fun args G s h=>?_) (fun args G m h=>?_)
 ·obtain ⟨v,rfl,_⟩:=h;simp
 ·obtain ⟨v,rfl,hm,hok⟩:=h
  have hm0:=hm
  obtain ⟨w0,a,n,c,rfl,hw,hl,hn,hp⟩:=hm
  have hln:=hl.len
  have hcl:m.cs.length = m.ps.length:=by simp
  have hw0:=hw
  obtain ⟨wa,wn,wc,rfl,hwl,hwn⟩:=hw
  have hwln:=hwl.len
  (conv=>whnf)
  refine NameP.mk (fun bm=>W.mk ?_)
  (conv=>whnf)
  refine CallN.mk ⟨_,all134w 148 #[] #[bptr bm] (fun _=>true) (fun x=>∃ p∈m.ps,x = p.c) (fun G=>MoV G (.agg #[.slice wa wn wc, .slice a n c]) m) bm (.slice a n c) (.slice wa wn wc) (fun _ _ hg h=>h.grow hg) (SoundFn.of body148 (rng148 m hok bm (.slice wa wn wc) (.slice a n c))),body134,W.mk ?_⟩
  (conv=>whnf)
  refine StP.mk ⟨[(0,⟨bm,false, .cells [.slice wa wn wc, .slice a n c] 38⟩)],⟨⟨_,rfl,rfl⟩,trivial⟩,(by show ([0]:List Nat).Nodup;decide),⟨rfl,hm0,_,m.cs,rfl,⟨a,n,c,rfl,hl,hn⟩,fun x hx=>mem_cs hx⟩,fun v ns G3 hg3 hpost=>W.mk ?_⟩
  obtain ⟨rfl,w',l',q1,q2,rfl⟩:=hpost
  dsimp only
  rw [all_true]
  (conv=>whnf)
  refine ForkP.mk (fun _=>W.mk ?_) (fun h=>by cases h)
  (conv=>whnf)
  exact FinP.mk rfl
end Go.Proofs.YtefnikpoimaiiaaGreat

namespace Go.Proofs.YtefnikpoimaiiaaGreat
open Go.Pal Go.RowKit
set_option maxRecDepth 100000
theorem call66 {G:Hp} {m:Mt} {v:Value} (hm:MoV G v m) (hok:MtOk m) (W:World) (hs:Sub G W):Calls Tryz.prog 66 #[v] W fun e W'=>∃ mb es ck,e = .returned (.map (some mb))∧W'.heap[mb]? = some (.map es ck)∧es.size = m.ps.length∧Below W.heap.size W W':=by
 refine (numbered66.2 [v] G W hs ⟨m,_,rfl,hm,numOk' m hok⟩).mono ?_
 rintro e W' ⟨u,G',rfl,⟨m',⟨_,e1,hm',_⟩,mb,es,ck,rfl,hb,hes⟩,hg,hs',_,hB⟩
 cases e1
 have:m' = m:=moRd.uniq hm' (moRd.grow hg hm)
 subst this
 exact ⟨mb,es,ck,rfl,hs' _ _ hb,num_size hes hok.nd,hB⟩
theorem alloc_blk (W:World) (o:Obj):(W.alloc o).drew.heap[W.heap.size]? = some o:=by
 show (W.heap.push o)[W.heap.size]? = some o
 rw [Array.getElem?_push,if_pos rfl]
theorem alloc_below (W:World) (o:Obj):Below W.heap.size W (W.alloc o).drew :=
 ⟨rfl,rfl,rfl,by show W.heap.size≤(W.heap.push o).size;rw [Array.size_push];omega,fun k hk=>by
  show (W.heap.push o)[k]? = _
  rw [Array.getElem?_push,if_neg (by omega)]⟩
theorem below_two {W W1 W2:World} (h:Below W.heap.size W W1) (h2:Below W1.heap.size W1 W2):Below W.heap.size W W2 :=
 ⟨h2.os.trans h.os,h2.tape.trans h.tape,h2.output.trans h.output,Nat.le_trans h.size h2.size,fun k hk=>(h2.block k (Nat.lt_of_lt_of_le hk h.size)).trans (h.block k hk)⟩
theorem cell_of {W:World} {b i:Nat} {cs:Array Value} {t:TypeId} {v:Value} (h:W.heap[b]? = some (.cells cs t (0,0))) (hv:cs[i]? = some v):W.cell? ⟨b,i,none⟩ = some v:=by
 simp [World.cell?,h,hv]
set_option maxHeartbeats 4000000 in
theorem twice143:Sound Tryz.prog 143 id (gsca moR fun _ v=>v = .bool true):=fun args G W hsub ⟨m,v,ha,hm,hok⟩=>by
 obtain ⟨w0,a,n,c,rfl,hw,hl,hn,hp⟩:=id hm
 have hln:=hl.len
 have hcl:m.cs.length = m.ps.length:=by simp
 subst ha
 have hcall:∀ W',Sub G W'→Calls Tryz.prog 66 #[.agg #[w0, .slice a n c]] W' fun e W''=>∃ mb es ck,e = .returned (.map (some mb))∧W''.heap[mb]? = some (.map es ck)∧es.size = m.ps.length∧Below W'.heap.size W' W'':=fun W' hs=>call66 hm hok W' hs
 refine (?_:Calls Tryz.prog 143 #[.agg #[w0, .slice a n c]] W fun e W'=>e = .returned (.bool true)∧Below W.heap.size W W').mono fun e W' ⟨h1,h2⟩=>⟨_,h1,⟨m,⟨_,rfl,hm,hok⟩,rfl⟩,h2⟩
 go_enter Tryz.func143,Tryz.ntmps143
 go_wp2
 rename_i a1
 have hS:Sub G (W.alloc (.cells #[w0, .slice a n c] 38 (0,0))).drew:=fun b o e=>by
  have h:=hsub b o e
  have hb:=(Array.getElem?_eq_some_iff.1 h).1
  show (W.heap.push _)[b]? = some o
  rw [Array.getElem?_push,if_neg (by omega)]
  exact h
 have hu:Tryz.prog.underlying 176 = some (.map 3 119):=by kernel_rfl
 go_region_with (go_at_call 66;go_loud ( refine (hcall _ hS).mono ?_;rintro e w1 ⟨mb,es,ck,rfl,h1,h2,h3⟩;have hblk:=(h3.block W.heap.size (Array.getElem?_eq_some_iff.1 (alloc_blk W _)).1).trans (alloc_blk W _);have hc0:w1.cell? ⟨W.heap.size,0,none⟩ = some w0:=cell_of hblk rfl;have hc1:w1.cell? ⟨W.heap.size,1,none⟩ = some (.slice a n c):=cell_of hblk rfl;have hq:(Builtin.len_ #[176] 3 #[.map (some mb)]).run Tryz.prog w1 = .ok (.int .i64 n) w1:=(by simp [Builtin.len_,run_underlying hu,goInt,getObj_map' h1,Result.andThen];omega)))
 all_goals (refine a1 _ _ ?_)
 all_goals (change Code.wp _ _ _ (Act.mk (Array.mk [_,_, .bool true,_,_,_,_,_,_,_]) []) _)
 all_goals go_wp2
 all_goals go_ret
 all_goals (exact ⟨rfl,below_two (alloc_below W _) h3⟩)
end Go.Proofs.YtefnikpoimaiiaaGreat

namespace Go.Proofs.YtefnikpoimaiiaaGreat
open Go.Pal Go.RowKit
set_option maxRecDepth 100000
theorem ends146:Sound Tryz.prog 146 id (gsca moR fun _ v=>v = .bool true):=by
 refine comp146.gsca (Tab.cons 66 _ numbered66 body66 (Tab.nil _)) (fun args G s h=>?_) (fun args G m h=>?_)
 ·obtain ⟨v,rfl,_⟩:=h;simp
 ·obtain ⟨v,rfl,hm,hok⟩:=h
  have hm0:=hm
  obtain ⟨w0,a,n,c,rfl,hw,hl,hn,hp⟩:=hm
  have hln:=hl.len
  have hcl:m.cs.length = m.ps.length:=by simp
  obtain ⟨wa,wn,wc,rfl,hwl,hwn⟩:=hw
  (conv=>whnf)
  refine RelP.g (ok1 moRd numOk) (x:=m) ⟨_,rfl,hm0,numOk' m hok⟩ (Grow.refl _) (fun v G1 hg1 hq=>W.mk ?_)
  obtain ⟨mb,es,ck,rfl,hb,hes⟩:=hq
  replace hl:=SlR.grow (G:=G) (G':=G1) (fun _ _ h=>h) hl hg1
  (conv=>whnf)
  refine LoopP.of { α:=Nat × Unit,fr:=fun z=>[(1, .c (.ptr 0 0)),(3, .v (.map (some mb))),(4, .c (.val (.bool true))),(11, .v (.slice a n c)),(12, .v (I n)),(13, .v (I z.1))],H:=fun z=>[(0, .cells .anon [.val (.slice wa wn wc), .val (.slice a n c)] 38)],ok:=fun z _=>z.1≤n,m:=fun z=>n - z.1 }
   (0,()) (HeadP.of [] ⟨rfl,rfl,rfl,rfl,rfl,rfl,trivial⟩ ⟨rfl,trivial⟩) (Nat.zero_le _) (fun _=>⟨rfl,rfl⟩) (fun z G2 hG hz=>W.mk ?_)
  obtain ⟨i,_⟩:=z
  have k1:i≤n:=hz
  clear hz
  dsimp only
  replace hl:=SlR.grow (G:=G1) (G':=G2) (fun _ _ h=>h) hl hG
  replace hb:=hG _ _ hb
  clear hG
  (conv=>whnf)
  refine IteP.mk (fun hlt=>W.mk ?_) (fun hge=>W.mk ?_)<;>(conv=>whnf)
  ·have hlt:i < m.ps.length:=by have hlt:(i:Int) < n:=hlt;omega
   have hel:=hl.el (i:=i) (by omega)
   rw [cs_get hlt] at hel
   have hend:=hok.ends _ (List.getElem_mem hlt)
   rw [show m.ps.length = n by omega] at hend
   refine OblP.mk ⟨by omega,by omega⟩ (W.mk ?_)
   (conv=>whnf)
   refine OblP.mk (hl.some (by omega)) (W.mk ?_)
   (conv=>whnf)
   refine RdP.at (cs:=pcL m.ps[i].c) hel rfl (W.mk ?_)
   (conv=>whnf)
   refine LoopP.of { α:=Nat × Pp,fr:=fun z=>[(1, .c (.ptr 0 0)),(3, .v (.map (some mb))),(4, .c (.val (.bool true))),(6, .c (.ptr 13 0)),(7, .v (I z.1)),(11, .v (.slice a n c)),(12, .v (I n)),(13, .v (I i))],H:=fun z=>[(0, .cells .anon [.val (.slice wa wn wc), .val (.slice a n c)] 38),(13, .cells .anon ((pcL z.2.c).map .val) 119)],ok:=fun z _=>z.1≤n∧z.2∈m.ps∧upK m (n - z.1) z.2.c.of = 0,m:=fun z=>n - z.1 }
    (0,m.ps[i]) (HeadP.of [] ⟨rfl,rfl,rfl,rfl,rfl,rfl,rfl,rfl,trivial⟩ ⟨rfl,rfl,trivial⟩) ⟨Nat.zero_le _,List.getElem_mem hlt,hend⟩ (fun _=>⟨rfl,rfl⟩) (fun z G3 hG hz=>W.mk ?_)
   obtain ⟨k,p⟩:=z
   obtain ⟨q1,q2,q3⟩:=hz
   dsimp only at q1 q2 q3
   dsimp only
   replace hb:=hG _ _ hb
   replace hl:=SlR.grow (G:=G2) (G':=G3) (fun _ _ h=>h) hl hG
   clear hG hel
   (conv=>whnf)
   refine IteP.mk (fun h0=>W.mk ?_) (fun h0=>W.mk ?_)<;>(conv=>whnf)
   ·have h0:p.c.of = 0:=h0
    (refine ob ?_ ?_;(first | trivial | omega | (simp only [inR];omega) | exact ble (by rfl) | exact SlR.some ‹_› (by omega));(conv=>whnf))
    exact RoundP.of (i + 1,()) (HeadP.of [] ⟨rfl,rfl,rfl,rfl,rfl,rfl,trivial⟩ ⟨rfl,trivial⟩) (by show i + 1≤n;omega) (by show n - (i + 1) < n - i;omega)
   ·have h0:¬ p.c.of = 0:=h0
    have hkn:k < n:=by
     rcases Nat.lt_or_ge k n with h | h
     ·exact h
     ·rw [show n - k = 0 by omega] at q3
      exact absurd q3 h0
    have hstep:upK m (n - (k + 1)) (ofOf m p.c.of) = 0:=by
     rw [show n - k = (n - (k + 1)) + 1 by omega,upK,if_neg h0] at q3
     exact q3
    obtain ⟨q,hq⟩:=hok.of p q2 h0
    have hof:ofOf m p.c.of = q.c.of:=by rw [ofOf,hq]
    rw [hof] at hstep
    (refine ob ?_ ?_;(first | trivial | omega | (simp only [inR];omega) | exact ble (by rfl) | exact SlR.some ‹_› (by omega));(conv=>whnf))
    refine IteP.mk (fun h=>absurd (show (k:Int) + 1 > n from h) (by omega)) (fun _=>W.mk ?_)
    (conv=>whnf)
    refine RdmP.mk ⟨es,ck,hb,W.mk ?_⟩
    (conv=>whnf)
    have hr:=of_rng hok q2
    obtain ⟨r,s1,s2,_⟩:=hes.find (x:=p.c.of) (by simp only [inR];omega)
    refine KeyP.mk ⟨r,s1,W.mk ?_⟩
    dsimp only
    have hnf:numF m.ps p.c.of = some (pcV q.c):=by show (pOf m p.c.of).map (fun p=>pcV p.c) = _;rw [hq];rfl
    rw [s2,hnf]
    (conv=>whnf)
    exact RoundP.of (k + 1,q) (HeadP.of [] ⟨rfl,rfl,rfl,rfl,rfl,rfl,rfl,rfl,trivial⟩ ⟨rfl,rfl,trivial⟩) ⟨hkn,(pOf_mem hq).1,hstep⟩ (by show n - (k + 1) < n - k;omega)
  ·exact FinP.mk rfl
end Go.Proofs.YtefnikpoimaiiaaGreat

namespace Go.Proofs.YtefnikpoimaiiaaGreat
open Go.Pal Go.RowKit
set_option maxRecDepth 100000
abbrev fnV (g:FuncId):Value:=.func (.func g) #[] #[]
def fE:El (Int × FuncId):=⟨2,fun x=>[I x.1,fnV x.2],fun {x y} h=>by obtain ⟨_,_⟩:=x;obtain ⟨_,_⟩:=y;simp at h;simp [h],fun _=>rfl,fun _ v hv=>by simp at hv;rcases hv with rfl | rfl<;>rfl⟩
def faultsL:List (Int × FuncId):=[(3,133),(4,136),(2,140),(6,143),(7,144),(8,146),(1,147)]
theorem faults97:Sound Tryz.prog 97 id (grel (fun args _ (_:Unit)=>args = []) fun _ v G=>∃ a c,v = .slice a 7 c∧SlR fE.k fE.R G a 7 c faultsL):=by
 refine comp97.grel (Tab.nil _) ⟨fun _ _ _ _ _ _=>rfl,fun _ _ _ _ _ h=>h⟩ (fun args G s h=>?_) (fun x v G G' hg h=>?_) (fun args G s h=>?_)
 ·have h:args = []:=h
  subst h;simp
 ·obtain ⟨a,c,e,h1⟩:=h
  exact ⟨a,c,e,SlR.grow (G:=G) (G':=G') (fun _ _ h=>h) h1 hg⟩
 ·have h:args = []:=h
  subst h
  (conv=>whnf)
  refine PubP.mk (fun a c G' hg hp=>W.mk ?_)
  (conv=>whnf)
  exact FinP.mk ⟨a,c,rfl,hp.sl rfl rfl⟩
theorem each7:∀ i, ∀ h:i < faultsL.length,SoundFn Tryz.prog (fnV faultsL[i].2) (gsca moR fun _ v=>v = .bool true):=by
 intro i h
 have h7:i < 7:=h
 rcases (by omega:i = 0∨i = 1∨i = 2∨i = 3∨i = 4∨i = 5∨i = 6) with rfl | rfl | rfl | rfl | rfl | rfl | rfl
 ·exact SoundFn.of body133 (Sound.bare limit133)
 ·exact SoundFn.of body136 (Sound.bare form136)
 ·exact SoundFn.of body140 (Sound.bare range140)
 ·exact SoundFn.of body143 (Sound.bare twice143)
 ·exact SoundFn.of body144 (Sound.bare none144)
 ·exact SoundFn.of body146 (Sound.bare ends146)
 ·exact SoundFn.of body147 (Sound.bare arg147)
theorem check65:Sound Tryz.prog 65 id (gsca moR fun _ v=>v = I 0):=by
 refine comp65.gsca (Tab.cons 97 _ faults97 body97 (Tab.nil _)) (fun args G s h=>?_) (fun args G m h=>?_)
 ·obtain ⟨v,rfl,_⟩:=h;simp
 ·obtain ⟨v,rfl,hm,hok⟩:=h
  have hm0:=hm
  obtain ⟨w0,a,n,c,rfl,hw,hl,hn,hp⟩:=hm
  obtain ⟨wa,wn,wc,rfl,hwl,hwn⟩:=hw
  (conv=>whnf)
  refine RelP.mk ⟨(),rfl⟩ (fun v G1 hg1 hq=>W.mk ?_)
  obtain ⟨_,_,fa,fc,rfl,hfl⟩:=hq
  replace hm0:=moRd.grow hg1 hm0
  (conv=>whnf)
  refine LoopP.of { α:=Nat × Unit,fr:=fun z=>[(1, .c (.ptr 0 0)),(5, .v (.slice fa 7 fc)),(6, .v (I 7)),(7, .v (I z.1))],H:=fun z=>[(0, .cells .anon [.val (.slice wa wn wc), .val (.slice a n c)] 38)],ok:=fun z _=>z.1≤7,m:=fun z=>7 - z.1 }
   (0,()) (HeadP.of [] ⟨rfl,rfl,rfl,rfl,trivial⟩ ⟨rfl,trivial⟩) (Nat.zero_le _) (fun _=>⟨rfl,rfl⟩) (fun z G2 hG hz=>W.mk ?_)
  obtain ⟨i,_⟩:=z
  have k1:i≤7:=hz
  clear hz
  dsimp only
  replace hfl:=SlR.grow (G:=G1) (G':=G2) (fun _ _ h=>h) hfl hG
  replace hm0:=moRd.grow hG hm0
  clear hG
  (conv=>whnf)
  refine IteP.mk (fun hlt=>W.mk ?_) (fun hge=>W.mk ?_)<;>(conv=>whnf)
  ·have hlt:i < faultsL.length:=by have hlt:(i:Int) < 7:=hlt;show i < 7;omega
   have hel:=hfl.el hlt
   have hsd:=each7 i hlt
   generalize faultsL[i] = q at hel hsd
   obtain ⟨e,g⟩:=q
   dsimp only at hsd
   refine OblP.mk ⟨by omega,by omega⟩ (W.mk ?_)
   (conv=>whnf)
   refine OblP.mk (hfl.some (by decide)) (W.mk ?_)
   (conv=>whnf)
   refine RdP.at (cs:=[I e,fnV g]) hel rfl (W.mk ?_)
   (conv=>whnf)
   refine CallvP.fn _ hsd (W.mk ?_)
   (conv=>whnf)
   refine ScaP.g (ok1 moRd MtOk) (x:=m) ⟨_,rfl,hm0,hok⟩ (fun v hv=>W.mk ?_)
   subst hv
   (conv=>whnf)
   refine ForkP.mk (fun _=>W.mk ?_) (fun h=>by cases h)
   (conv=>whnf)
   (refine ob ?_ ?_;(first | trivial | omega | (simp only [inR];omega) | exact ble (by rfl) | exact SlR.some ‹_› (by omega));(conv=>whnf))
   exact RoundP.of (i + 1,()) (HeadP.of [] ⟨rfl,rfl,rfl,rfl,trivial⟩ ⟨rfl,trivial⟩) (by show i + 1≤7;omega) (by show 7 - (i + 1) < 7 - i;omega)
  ·exact FinP.mk rfl
end Go.Proofs.YtefnikpoimaiiaaGreat

namespace Go.Proofs.YtefnikpoimaiiaaGreat
open Go.Pal Go.RowKit
set_option maxRecDepth 100000
theorem index72:Sound Tryz.prog 72 id (gsca (args2 (slRd intE) intRd fun _ _=>True) fun x v=>∃ k,v = I k∧decide (k ≥ 0) = hasI x.1 x.2):=by
 refine comp72.gsca (Tab.nil _) (fun args G s h=>?_) (fun args G s h=>?_)
 ·obtain ⟨v,w,rfl,_⟩:=h;simp
 ·obtain ⟨l,x⟩:=s
  obtain ⟨v,w,rfl,⟨a,n,c,rfl,hl,hn⟩,rfl,_⟩:=h
  have hln:=hl.len
  dsimp only at hl hln
  dsimp only
  (conv=>whnf)
  refine LoopP.of { α:=Nat × Unit,fr:=fun z=>[(0, .v (.slice a n c)),(1, .v (I x)),(7, .v (I n)),(8, .v (I z.1))],H:=fun _=>[],ok:=fun z _=>z.1≤n∧∀ j (h:j < l.length),j < z.1→l[j]≠x,m:=fun z=>n - z.1 }
   (0,()) (HeadP.of [] ⟨rfl,rfl,rfl,rfl,trivial⟩ trivial) ⟨Nat.zero_le _,fun j _ h=>absurd h (Nat.not_lt_zero _)⟩ (fun _=>⟨rfl,rfl⟩) (fun z G' hG hz=>W.mk ?_)
  obtain ⟨i,_⟩:=z
  obtain ⟨k1,k2⟩:=hz
  dsimp only at k1 k2
  dsimp only
  replace hl:=SlR.grow (G:=G) (G':=G') (fun _ _ h=>h) hl hG
  (conv=>whnf)
  refine IteP.mk (fun hlt=>W.mk ?_) (fun hge=>W.mk ?_)<;>(conv=>whnf)
  ·have hlt:i < l.length:=by have hlt:(i:Int) < n:=hlt;omega
   have hel:=hl.el hlt
   repeat' (first | (refine ob ?_ ?_;(first | trivial | omega | (simp only [inR];omega) | exact ble (by rfl) | exact SlR.some ‹_› (by omega));(conv=>whnf)) | (first | (refine ra ‹_› (by rfl) ?_;(conv=>whnf)) | (refine rb ‹_› (by rfl) ?_;(conv=>whnf)) | (refine rc ‹_› (by rfl) ?_;(conv=>whnf)) | (refine rd ‹_› (by rfl) ?_;(conv=>whnf))))
   refine IteP.mk (fun he=>W.mk ?_) (fun he=>W.mk ?_)<;>(conv=>whnf)
   ·have he:x = l[i]:=he
    refine FinP.mk ⟨i,rfl, ?_⟩
    have:hasI l x = true:=List.any_eq_true.2 ⟨l[i],List.getElem_mem hlt,by simp [he]⟩
    rw [this]
    exact decide_eq_true (by omega)
   ·have he:¬ x = l[i]:=he
    (refine ob ?_ ?_;(first | trivial | omega | (simp only [inR];omega) | exact ble (by rfl) | exact SlR.some ‹_› (by omega));(conv=>whnf))
    refine RoundP.of (i + 1,()) (HeadP.of [] ⟨rfl,rfl,rfl,rfl,trivial⟩ trivial) ⟨by show i + 1≤n;omega,fun j h h1=>?_⟩ (by show n - (i + 1) < n - i;omega)
    by_cases e:j = i
    ·subst e;exact fun e=>he e.symm
    ·exact k2 j h (by have h1:j < i + 1:=h1;omega)
  ·have hge:¬ (i:Int) < n:=hge
   refine FinP.mk ⟨-1,rfl, ?_⟩
   have:hasI l x = false:=by
    rw [hasI,List.any_eq_false]
    intro y hy
    obtain ⟨j,hj,rfl⟩:=List.getElem_of_mem hy
    simpa using k2 j hj (by omega)
   rw [this];rfl
theorem contains41:Sound Tryz.prog 41 id (gsca (args2 (slRd intE) intRd fun _ _=>True) fun x v=>v = .bool (hasI x.1 x.2)):=by
 refine comp41.gsca (Tab.cons 72 _ index72 body72 (Tab.nil _)) (fun args G s h=>?_) (fun args G s h=>?_)
 ·obtain ⟨v,w,rfl,_⟩:=h;simp
 ·obtain ⟨l,x⟩:=s
  obtain ⟨v,w,rfl,hl,rfl,_⟩:=h
  have hl0:=hl
  obtain ⟨a,n,c,rfl,hl,hn⟩:=hl
  dsimp only at hl0
  dsimp only
  (conv=>whnf)
  refine ScaP.g (ok2 (slRd intE) intRd fun _ _=>True) (x:=(l,x)) ⟨_,_,rfl,hl0,rfl,trivial⟩ (fun v hv=>W.mk ?_)
  obtain ⟨k,rfl,hk⟩:=hv
  (conv=>whnf)
  refine IteP.mk (fun h=>W.mk ?_) (fun h=>W.mk ?_)<;>(conv=>whnf)
  ·have h:k ≥ 0:=h
   refine FinP.mk ?_
   show Value.bool true = .bool (hasI l x)
   rw [← hk,decide_eq_true h]
  ·have h:¬ k ≥ 0:=h
   refine FinP.mk ?_
   show Value.bool false = .bool (hasI l x)
   rw [← hk,decide_eq_false h]
theorem clash98:Sound Tryz.prog 98 id (gsca (args2 pcRd pcRd fun _ _=>True) fun x v=>v = .bool (clashF x.1 x.2)):=by
 refine comp98.gsca (Tab.nil _) (fun args G s h=>?_) (fun args G s h=>?_)
 ·obtain ⟨v,w,rfl,_⟩:=h;simp
 ·obtain ⟨x,y⟩:=s
  obtain ⟨v,w,rfl,rfl,rfl,_⟩:=h
  dsimp only
  (conv=>whnf)
  repeat' (first | (refine IteP.mk (fun _=>W.mk ?_) (fun _=>W.mk ?_)<;>(conv=>whnf)) | (refine ob ?_ ?_;(first | trivial | omega | (simp only [inR];omega) | exact ble (by rfl) | exact SlR.some ‹_› (by omega));(conv=>whnf)) | (refine ForkP.mk (fun _=>W.mk ?_) (fun _=>W.mk ?_)<;>(conv=>whnf)) | (refine ra ‹_› (by rfl) ?_;(conv=>whnf)) | (refine rb ‹_› (by rfl) ?_;(conv=>whnf)) | (refine rc ‹_› (by rfl) ?_;(conv=>whnf)) | (refine rd ‹_› (by rfl) ?_;(conv=>whnf)) | (refine FinP.mk ?_))
  all_goals (refine congrArg Value.bool ?_;simp [clashF, *])
structure ChOk (m:Mt) (l:List Int):Prop where
 inc:l.Pairwise (· < ·)
 mem:∀ c∈l, ∃ p,pOf m c = some p
 cl:∀ c∈l, ∀ p,pOf m c = some p→p.c.of≠0→p.c.of∈l
 nc:∀ a∈l, ∀ b∈l, ∀ p q,pOf m a = some p→pOf m b = some q→clashF p.c q.c = false
theorem hasI_mem {l:List Int} {x:Int} (h:x∈l):hasI l x = true:=List.any_eq_true.2 ⟨x,h,by simp⟩
theorem pOf_rng {m:Mt} (h:MtOk m) {x:Int} {p:Pp} (hp:pOf m x = some p):1≤x∧x≤999:=by
 obtain ⟨h1,rfl⟩:=pOf_mem hp
 exact h.num p h1
def chR:GRel (Mt × List Int):=args2 moRd (slRd intE) fun m l=>MtOk m∧ChOk m l
theorem chosen67:Sound Tryz.prog 67 id (gsca chR fun _ v=>v = I 0):=by
 refine comp67.gsca (Tab.cons 66 _ numbered66 body66 (Tab.cons 41 _ contains41 body41 (Tab.cons 98 _ clash98 body98 (Tab.nil _)))) (fun args G s h=>?_) (fun args G s h=>?_)
 ·obtain ⟨v,w,rfl,_⟩:=h;simp
 ·obtain ⟨m,l⟩:=s
  obtain ⟨v,w,rfl,hm,hl,hok,hch⟩:=h
  have hm0:=hm
  obtain ⟨w0,a,n,c,rfl,hw,hls,hn,hp⟩:=hm
  obtain ⟨wa,wn,wc,rfl,hwl,hwn⟩:=hw
  obtain ⟨la,ln,lc,rfl,hll,hlb⟩:=id hl
  dsimp only at hm0 hl hll hok hch
  have hlln:=hll.len
  change SlV intE G (.slice la ln lc) l at hl
  (conv=>whnf)
  refine RelP.g (ok1 moRd numOk) (x:=m) ⟨_,rfl,hm0,numOk' m hok⟩ (Grow.refl _) (fun v G1 hg1 hq=>W.mk ?_)
  obtain ⟨mb,es,ck,rfl,hb,hes⟩:=hq
  replace hl:=hl.grow hg1
  replace hll:=SlR.grow (G:=G) (G':=G1) (fun _ _ h=>h) hll hg1
  (conv=>whnf)
  refine LoopP.of { α:=Nat × Unit,fr:=fun z=>(17, .v (I z.1)) :: [(1, .v (.slice la ln lc)),(5, .v (.map (some mb))),(15, .v (.slice la ln lc)),(16, .v (I ln))],H:=fun z=>[(0, .cells .anon [.val (.slice wa wn wc), .val (.slice a n c)] 38)],ok:=fun z _=>z.1≤ln,m:=fun z=>ln - z.1 }
   (0,()) (HeadP.of [] ⟨rfl,rfl,rfl,rfl,rfl,trivial⟩ ⟨rfl,trivial⟩) (Nat.zero_le _) (fun _=>⟨rfl,rfl⟩) (fun z G2 hG hz=>W.mk ?_)
  obtain ⟨i,_⟩:=z
  have k1:i≤ln:=hz
  clear hz
  dsimp only
  replace hl:=hl.grow hG
  replace hll:=SlR.grow (G:=G1) (G':=G2) (fun _ _ h=>h) hll hG
  replace hb:=hG _ _ hb
  clear hG
  (conv=>whnf)
  refine IteP.mk (fun hlt=>W.mk ?_) (fun hge=>W.mk ?_)<;>(conv=>whnf)
  ·have hlt:i < l.length:=by have hlt:(i:Int) < ln:=hlt;omega
   have hel:=hll.el hlt
   refine OblP.mk ⟨by omega,by omega⟩ (W.mk ?_)
   (conv=>whnf)
   refine OblP.mk (hll.some (by omega)) (W.mk ?_)
   (conv=>whnf)
   refine RdP.at (cs:=[I l[i]]) hel rfl (W.mk ?_)
   (conv=>whnf)
   obtain ⟨p,hpi⟩:=hch.mem _ (List.getElem_mem hlt)
   refine RdmP.mk ⟨es,ck,hb,W.mk ?_⟩
   (conv=>whnf)
   obtain ⟨r,s1,s2,_⟩:=hes.find (x:=l[i]) (by have:=pOf_rng hok hpi;simp only [inR];omega)
   refine KeyP.mk ⟨r,s1,W.mk ?_⟩
   dsimp only
   rw [s2,show numF m.ps l[i] = some (pcV (p).c) from (congrArg (Option.map fun p:Pp=>pcV p.c) hpi)]
   (conv=>whnf)
   refine IteP.mk (fun h0=>W.mk ?_) (fun h0=>W.mk ?_)<;>(conv=>whnf)
   ·(refine ob ?_ ?_;(first | trivial | omega | (simp only [inR];omega) | exact ble (by rfl) | exact SlR.some ‹_› (by omega));(conv=>whnf))
    exact RoundP.of (i + 1,()) (HeadP.of [] ⟨rfl,rfl,rfl,rfl,rfl,trivial⟩ ⟨rfl,trivial⟩) (by show i + 1≤ln;omega) (by show ln - (i + 1) < ln - i;omega)
   ·have h0:¬ p.c.of = 0:=h0
    have hmem:=hch.cl _ (List.getElem_mem hlt) p hpi h0
    refine ScaP.g (ok2 (slRd intE) intRd fun _ _=>True) (x:=(l,p.c.of)) ⟨_,_,rfl,hl,rfl,trivial⟩ (fun v hv=>W.mk ?_)
    subst hv
    dsimp only
    rw [hasI_mem hmem]
    (conv=>whnf)
    refine ForkP.mk (fun _=>W.mk ?_) (fun h=>by cases h)
    (conv=>whnf)
    (refine ob ?_ ?_;(first | trivial | omega | (simp only [inR];omega) | exact ble (by rfl) | exact SlR.some ‹_› (by omega));(conv=>whnf))
    exact RoundP.of (i + 1,()) (HeadP.of [] ⟨rfl,rfl,rfl,rfl,rfl,trivial⟩ ⟨rfl,trivial⟩) (by show i + 1≤ln;omega) (by show ln - (i + 1) < ln - i;omega)
  clear k1
  refine LoopP.of { α:=Nat × Unit,fr:=fun z=>(36, .v (I z.1)) :: [(1, .v (.slice la ln lc)),(5, .v (.map (some mb))),(34, .v (.slice la ln lc)),(35, .v (I ln))],H:=fun z=>[(0, .cells .anon [.val (.slice wa wn wc), .val (.slice a n c)] 38)],ok:=fun z _=>z.1≤ln,m:=fun z=>ln - z.1 }
   (0,()) (HeadP.of [] ⟨rfl,rfl,rfl,rfl,rfl,trivial⟩ ⟨rfl,trivial⟩) (Nat.zero_le _) (fun _=>⟨rfl,rfl⟩) (fun z G3 hG hz=>W.mk ?_)
  obtain ⟨j,_⟩:=z
  have k1:j≤ln:=hz
  clear hz
  dsimp only
  replace hl:=hl.grow hG
  replace hll:=SlR.grow (G:=G2) (G':=G3) (fun _ _ h=>h) hll hG
  replace hb:=hG _ _ hb
  clear hG
  (conv=>whnf)
  refine IteP.mk (fun hlt=>W.mk ?_) (fun hge=>W.mk ?_)<;>(conv=>whnf)
  rotate_left
  ·exact FinP.mk rfl
  have hlt:j < l.length:=by have hlt:(j:Int) < ln:=hlt;omega
  have hel:=hll.el hlt
  refine OblP.mk ⟨by omega,by omega⟩ (W.mk ?_)
  (conv=>whnf)
  refine OblP.mk (hll.some (by omega)) (W.mk ?_)
  (conv=>whnf)
  refine RdP.at (cs:=[I l[j]]) hel rfl (W.mk ?_)
  (conv=>whnf)
  obtain ⟨p,hpi⟩:=hch.mem _ (List.getElem_mem hlt)
  have hpm:=List.getElem_mem hlt
  generalize l[j] = x at hpi hpm
  clear hel
  refine LoopP.of { α:=Nat × Unit,fr:=fun z=>(42, .v (I z.1)) :: [(1, .v (.slice la ln lc)),(5, .v (.map (some mb))),(10, .v (I x)),(34, .v (.slice la ln lc)),(35, .v (I ln)),(36, .v (I j)),(40, .v (.slice la ln lc)),(41, .v (I ln))],H:=fun z=>[(0, .cells .anon [.val (.slice wa wn wc), .val (.slice a n c)] 38)],ok:=fun z _=>z.1≤ln,m:=fun z=>ln - z.1 }
   (0,()) (HeadP.of [] ⟨rfl,rfl,rfl,rfl,rfl,rfl,rfl,rfl,rfl,trivial⟩ ⟨rfl,trivial⟩) (Nat.zero_le _) (fun _=>⟨rfl,rfl⟩) (fun z G4 hG hz=>W.mk ?_)
  obtain ⟨k,_⟩:=z
  have k1:k≤ln:=hz
  clear hz
  dsimp only
  replace hl:=hl.grow hG
  replace hll:=SlR.grow (G:=G3) (G':=G4) (fun _ _ h=>h) hll hG
  replace hb:=hG _ _ hb
  clear hG
  (conv=>whnf)
  refine IteP.mk (fun hlt=>W.mk ?_) (fun hge=>W.mk ?_)<;>(conv=>whnf)
  ·have hlt:k < l.length:=by have hlt:(k:Int) < ln:=hlt;omega
   have hel:=hll.el hlt
   refine OblP.mk ⟨by omega,by omega⟩ (W.mk ?_)
   (conv=>whnf)
   refine OblP.mk (hll.some (by omega)) (W.mk ?_)
   (conv=>whnf)
   refine RdP.at (cs:=[I l[k]]) hel rfl (W.mk ?_)
   (conv=>whnf)
   obtain ⟨q,hqi⟩:=hch.mem _ (List.getElem_mem hlt)
   have hqm:=List.getElem_mem hlt
   generalize l[k] = y at hqi hqm hel
   refine RdmP.mk ⟨es,ck,hb,W.mk ?_⟩
   (conv=>whnf)
   obtain ⟨r,s1,s2,_⟩:=hes.find (x:=x) (by have:=pOf_rng hok hpi;simp only [inR];omega)
   refine KeyP.mk ⟨r,s1,W.mk ?_⟩
   dsimp only
   rw [s2,show numF m.ps x = some (pcV (p).c) from (congrArg (Option.map fun p:Pp=>pcV p.c) hpi)]
   (conv=>whnf)
   refine RdmP.mk ⟨es,ck,hb,W.mk ?_⟩
   (conv=>whnf)
   obtain ⟨r,s1,s2,_⟩:=hes.find (x:=y) (by have:=pOf_rng hok hqi;simp only [inR];omega)
   refine KeyP.mk ⟨r,s1,W.mk ?_⟩
   dsimp only
   rw [s2,show numF m.ps y = some (pcV (q).c) from (congrArg (Option.map fun p:Pp=>pcV p.c) hqi)]
   (conv=>whnf)
   refine ScaP.g (ok2 pcRd pcRd fun _ _=>True) (x:=(p.c,q.c)) ⟨_,_,rfl,rfl,rfl,trivial⟩ (fun v hv=>W.mk ?_)
   subst hv
   dsimp only
   rw [hch.nc x hpm y hqm p q hpi hqi]
   (conv=>whnf)
   refine ForkP.mk (fun h=>by cases h) (fun _=>W.mk ?_)
   (conv=>whnf)
   (refine ob ?_ ?_;(first | trivial | omega | (simp only [inR];omega) | exact ble (by rfl) | exact SlR.some ‹_› (by omega));(conv=>whnf))
   exact RoundP.of (k + 1,()) (HeadP.of [] ⟨rfl,rfl,rfl,rfl,rfl,rfl,rfl,rfl,rfl,trivial⟩ ⟨rfl,trivial⟩) (by show k + 1≤ln;omega) (by show ln - (k + 1) < ln - k;omega)
  ·have hjl:(j:Int) < ln:=by omega
   (refine ob ?_ ?_;(first | trivial | omega | (simp only [inR];omega) | exact ble (by rfl) | exact SlR.some ‹_› (by omega));(conv=>whnf))
   exact RoundP.of (j + 1,()) (HeadP.of [] ⟨rfl,rfl,rfl,rfl,rfl,trivial⟩ ⟨rfl,trivial⟩) (by show j + 1≤ln;omega) (by show ln - (j + 1) < ln - j;omega)
end Go.Proofs.YtefnikpoimaiiaaGreat

namespace Go.Proofs.YtefnikpoimaiiaaGreat
open Go.Pal Go.RowKit
set_option maxRecDepth 100000
theorem check36:Sound Tryz.prog 36 id (gsca chR fun _ v=>v = I 0):=by
 refine comp36.gsca (Tab.cons 65 _ check65 body65 (Tab.cons 66 _ numbered66 body66 (Tab.cons 67 _ chosen67 body67 (Tab.nil _)))) (fun args G s h=>?_) (fun args G s h=>?_)
 ·obtain ⟨v,w,rfl,_⟩:=h;simp
 ·obtain ⟨m,l⟩:=s
  obtain ⟨v,w,rfl,hm,hl,hok,hch⟩:=h
  have hm0:=hm
  obtain ⟨w0,a,n,c,rfl,hw,hls,hn,hp⟩:=hm
  obtain ⟨wa,wn,wc,rfl,hwl,hwn⟩:=hw
  obtain ⟨la,ln,lc,rfl,hll,hlb⟩:=id hl
  dsimp only at hm0 hl hll hok hch
  have hlln:=hll.len
  change SlV intE G (.slice la ln lc) l at hl
  (conv=>whnf)
  refine ScaP.g (ok1 moRd MtOk) (x:=m) ⟨_,rfl,hm0,hok⟩ (fun v hv=>W.mk ?_)
  subst hv
  (conv=>whnf)
  refine IteP.mk (fun _=>W.mk ?_) (fun h=>absurd rfl h)
  (conv=>whnf)
  refine RelP.g (ok1 moRd numOk) (x:=m) ⟨_,rfl,hm0,numOk' m hok⟩ (Grow.refl _) (fun v G1 hg1 hq=>W.mk ?_)
  obtain ⟨mb,es,ck,rfl,hb,hes⟩:=hq
  replace hm0:=moRd.grow hg1 hm0
  replace hl:=hl.grow hg1
  replace hll:=SlR.grow (G:=G) (G':=G1) (fun _ _ h=>h) hll hg1
  (conv=>whnf)
  refine LoopP.of { α:=Nat × Unit,fr:=fun z=>[(1, .v (.slice la ln lc)),(2, .c (.ptr 0 0)),(6, .v (.map (some mb))),(16, .v (.slice la ln lc)),(17, .v (I ln)),(18, .v (I z.1))],H:=fun z=>[(0, .cells .anon [.val (.slice wa wn wc), .val (.slice a n c)] 38)],ok:=fun z _=>z.1≤ln,m:=fun z=>ln - z.1 }
   (0,()) (HeadP.of [] ⟨rfl,rfl,rfl,rfl,rfl,rfl,trivial⟩ ⟨rfl,trivial⟩) (Nat.zero_le _) (fun _=>⟨rfl,rfl⟩) (fun z G2 hG hz=>W.mk ?_)
  obtain ⟨i,_⟩:=z
  have k1:i≤ln:=hz
  clear hz
  dsimp only
  replace hm0:=moRd.grow hG hm0
  replace hl:=hl.grow hG
  replace hll:=SlR.grow (G:=G1) (G':=G2) (fun _ _ h=>h) hll hG
  replace hb:=hG _ _ hb
  clear hG
  (conv=>whnf)
  refine IteP.mk (fun hlt=>W.mk ?_) (fun hge=>W.mk ?_)<;>(conv=>whnf)
  ·have hlt:i < l.length:=by have hlt:(i:Int) < ln:=hlt;omega
   have hel:=hll.el hlt
   refine OblP.mk ⟨by omega,by omega⟩ (W.mk ?_)
   (conv=>whnf)
   refine OblP.mk (hll.some (by omega)) (W.mk ?_)
   (conv=>whnf)
   refine RdP.at (cs:=[I l[i]]) hel rfl (W.mk ?_)
   (conv=>whnf)
   obtain ⟨p,hpi⟩:=hch.mem _ (List.getElem_mem hlt)
   have hrg:=pOf_rng hok hpi
   refine RdmP.mk ⟨es,ck,hb,W.mk ?_⟩
   (conv=>whnf)
   obtain ⟨r,s1,s2,_⟩:=hes.find (x:=l[i]) (by simp only [inR];omega)
   refine KeyP.mk ⟨r,s1,W.mk ?_⟩
   dsimp only
   rw [s2,show numF m.ps l[i] = some (pcV p.c) from (congrArg (Option.map fun p:Pp=>pcV p.c) hpi)]
   (conv=>whnf)
   refine IteP.mk (fun _=>W.mk ?_) (fun h=>absurd (pOf_mem hpi).2 h)
   (conv=>whnf)
   refine IteP.mk (fun h=>absurd (show l[i] = 0 from h) (by omega)) (fun _=>W.mk ?_)
   (conv=>whnf)
   refine IteP.mk (fun h=>W.mk ?_) (fun h=>W.mk ?_)<;>(conv=>whnf)
   ·have h:(i:Int) > 0:=h
    have hlt1:i - 1 < l.length:=by omega
    have hel1:CellsAt G2 (ab la) (ao la + ((i:Int) - 1).toNat * intE.k) (intE.f l[i - 1]):=by
     rw [show ((i:Int) - 1).toNat = i - 1 by omega];exact hll.el hlt1
    have hri:l[i - 1] < l[i]:=List.pairwise_iff_getElem.1 hch.inc (i - 1) i hlt1 hlt (by omega)
    (refine ob ?_ ?_;(first | trivial | omega | (simp only [inR];omega) | exact ble (by rfl) | exact SlR.some ‹_› (by omega));(conv=>whnf))
    refine OblP.mk ⟨by omega,by omega⟩ (W.mk ?_)
    (conv=>whnf)
    refine OblP.mk (hll.some (by omega)) (W.mk ?_)
    (conv=>whnf)
    refine RdP.at (cs:=[I l[i - 1]]) hel1 rfl (W.mk ?_)
    (conv=>whnf)
    refine IteP.mk (fun h2=>absurd (show l[i]≤l[i - 1] from h2) (by omega)) (fun _=>W.mk ?_)
    (conv=>whnf)
    (refine ob ?_ ?_;(first | trivial | omega | (simp only [inR];omega) | exact ble (by rfl) | exact SlR.some ‹_› (by omega));(conv=>whnf))
    exact RoundP.of (i + 1,()) (HeadP.of [] ⟨rfl,rfl,rfl,rfl,rfl,rfl,trivial⟩ ⟨rfl,trivial⟩) (by show i + 1≤ln;omega) (by show ln - (i + 1) < ln - i;omega)
   ·(refine ob ?_ ?_;(first | trivial | omega | (simp only [inR];omega) | exact ble (by rfl) | exact SlR.some ‹_› (by omega));(conv=>whnf))
    exact RoundP.of (i + 1,()) (HeadP.of [] ⟨rfl,rfl,rfl,rfl,rfl,rfl,trivial⟩ ⟨rfl,trivial⟩) (by show i + 1≤ln;omega) (by show ln - (i + 1) < ln - i;omega)
  ·refine ScaP.g (ok2 moRd (slRd intE) fun m l=>MtOk m∧ChOk m l) (x:=(m,l)) ⟨_,_,rfl,hm0,hl,hok,hch⟩ (fun v hv=>W.mk ?_)
   subst hv
   (conv=>whnf)
   exact FinP.mk rfl
end Go.Proofs.YtefnikpoimaiiaaGreat

namespace Go.Proofs.YtefnikpoimaiiaaGreat
open Go.Pal Go.RowKit
set_option maxRecDepth 100000
def cmpL:List Int→Int
 | []=>0
 | x :: t=>if x≠0 then x else cmpL t
theorem compare71:Sound Tryz.prog 71 id (gsca (args1 (slRd intE) fun _=>True) fun l v=>v = I (cmpL l)):=by
 refine comp71.gsca (Tab.nil _) (fun args G s h=>?_) (fun args G l h=>?_)
 ·obtain ⟨v,rfl,_⟩:=h;simp
 ·obtain ⟨v,rfl,⟨a,n,c,rfl,hl,hn⟩,_⟩:=h
  have hln:=hl.len
  (conv=>whnf)
  refine LoopP.of { α:=Nat × Unit,fr:=fun z=>[(5, .v (.slice a n c)),(6, .v (I n)),(7, .v (I z.1))],H:=fun _=>[],ok:=fun z _=>z.1≤n∧cmpL (l.drop z.1) = cmpL l,m:=fun z=>n - z.1 }
   (0,()) (HeadP.of [] ⟨rfl,rfl,rfl,trivial⟩ trivial) ⟨Nat.zero_le _,rfl⟩ (fun _=>⟨rfl,rfl⟩) (fun z G' hG hz=>W.mk ?_)
  obtain ⟨i,_⟩:=z
  obtain ⟨k1,k2⟩:=hz
  dsimp only at k1 k2
  dsimp only
  replace hl:=SlR.grow (G:=G) (G':=G') (fun _ _ h=>h) hl hG
  (conv=>whnf)
  refine IteP.mk (fun hlt=>W.mk ?_) (fun hge=>W.mk ?_)<;>(conv=>whnf)
  ·have hlt:i < l.length:=by have hlt:(i:Int) < n:=hlt;omega
   have hel:=hl.el hlt
   rw [List.drop_eq_getElem_cons hlt,cmpL] at k2
   repeat' (first | (refine ob ?_ ?_;(first | trivial | omega | (simp only [inR];omega) | exact ble (by rfl) | exact SlR.some ‹_› (by omega));(conv=>whnf)) | (first | (refine ra ‹_› (by rfl) ?_;(conv=>whnf)) | (refine rb ‹_› (by rfl) ?_;(conv=>whnf)) | (refine rc ‹_› (by rfl) ?_;(conv=>whnf)) | (refine rd ‹_› (by rfl) ?_;(conv=>whnf))))
   refine IteP.mk (fun he=>W.mk ?_) (fun he=>W.mk ?_)<;>(conv=>whnf)
   ·have he:l[i] = 0:=he
    rw [if_neg (by simp [he])] at k2
    (refine ob ?_ ?_;(first | trivial | omega | (simp only [inR];omega) | exact ble (by rfl) | exact SlR.some ‹_› (by omega));(conv=>whnf))
    exact RoundP.of (i + 1,()) (HeadP.of [] ⟨rfl,rfl,rfl,trivial⟩ trivial) ⟨by show i + 1≤n;omega,k2⟩ (by show n - (i + 1) < n - i;omega)
   ·have he:¬ l[i] = 0:=he
    rw [if_pos he] at k2
    refine FinP.mk ?_
    show I l[i] = I (cmpL l)
    rw [← k2]
  ·have hge:¬ (i:Int) < n:=hge
   rw [List.drop_of_length_le (by omega)] at k2
   refine FinP.mk ?_
   show I 0 = I (cmpL l)
   rw [← k2];rfl
structure SmP (x:Pc):Prop where
 f:0≤x.fr∧x.fr≤60
 t:0≤x.to∧x.to≤60
 n:1≤x.n∧x.n≤999
def keyP (x:Pc):Int:=x.fr * 1000000 + x.to * 1000 + x.n
theorem cmp70:Sound Tryz.prog 70 id (gsca (args2 pcRd pcRd fun x y=>SmP x∧SmP y) fun x v=>∃ e,v = I e∧(e < 0↔keyP x.1 < keyP x.2)):=by
 refine comp70.gsca (Tab.cons 71 _ compare71 body71 (Tab.nil _)) (fun args G s h=>?_) (fun args G s h=>?_)
 ·obtain ⟨v,w,rfl,_⟩:=h;simp
 ·obtain ⟨x,y⟩:=s
  obtain ⟨v,w,rfl,rfl,rfl,⟨hx1,hx2,hx3⟩,hy1,hy2,hy3⟩:=h
  dsimp only at hx1 hx2 hx3 hy1 hy2 hy3
  dsimp only
  (conv=>whnf)
  repeat' (refine ob ?_ ?_;(first | trivial | omega | (simp only [inR];omega) | exact ble (by rfl) | exact SlR.some ‹_› (by omega));(conv=>whnf))
  refine PubP.mk (fun a c G' hg hp=>W.mk ?_)
  (conv=>whnf)
  refine ScaP.g (ok1 (slRd intE) fun _=>True) (x:=[x.fr - y.fr,x.to - y.to,x.n - y.n]) ⟨_,rfl,hp.slV rfl rfl (by decide),trivial⟩ (fun v hv=>W.mk ?_)
  subst hv
  (conv=>whnf)
  refine FinP.mk ⟨_,rfl, ?_⟩
  simp only [cmpL,keyP]
  split
  ·omega
  ·split
   ·omega
   ·split<;>omega
abbrev U64 (n:Int):Value:=.int .u64 n
theorem pur_idx8 {s:ByteArray} {i:Nat} {b:UInt8} (h:s[i]? = some b):∀ w,((POp.idx 9).sem [.string s,U8 (i:Int)]).run Tryz.prog w = .ok (U8 (b.toNat:Nat)) w:=fun w=>by
 have e1:(POp.idx 9).sem [.string s,U8 (i:Int)] = Instr.index 9 (.string s) (U8 (i:Int)):=rfl
 rw [e1]
 simp [Instr.index,run_underlying und9,asIntOf,h]
theorem len158:Sound Tryz.prog 158 id (gsca (fun args _ (n:Nat)=>args = [U64 n]∧n≤12) fun _ v=>∃ k,v = I k):=by
 refine comp158.gsca (Tab.nil _) (fun args G s h=>?_) (fun args G n h=>?_)
 ·obtain ⟨rfl,_⟩:=h;simp
 ·obtain ⟨rfl,hn⟩:=h
  (conv=>whnf)
  refine IteP.mk (fun h=>by exfalso;omega) (fun _=>W.mk ?_)
  (conv=>whnf)
  refine IteP.mk (fun h=>by exfalso;omega) (fun _=>W.mk ?_)
  (conv=>whnf)
  refine IteP.mk (fun h=>by exfalso;omega) (fun _=>W.mk ?_)
  (conv=>whnf)
  repeat' (refine ob ?_ ?_;(first | trivial | omega | (simp only [inR];omega) | exact ble (by rfl) | exact SlR.some ‹_› (by omega));(conv=>whnf))
  rcases (by omega:n = 0∨n = 1∨n = 2∨n = 3∨n = 4∨n = 5∨n = 6∨n = 7∨n = 8∨n = 9∨n = 10∨n = 11∨n = 12) with rfl | rfl | rfl | rfl | rfl | rfl | rfl | rfl | rfl | rfl | rfl | rfl | rfl
  all_goals (refine PurP.of (U8 _) (pur_idx8 (by rfl)) (W.mk ?_))
  all_goals (conv=>whnf)
  all_goals (repeat' (refine ob ?_ ?_;(first | trivial | omega | (simp only [inR];omega) | exact ble (by rfl) | exact SlR.some ‹_› (by omega));(conv=>whnf)))
  all_goals exact FinP.mk ⟨_,rfl⟩
theorem len100:Sound Tryz.prog 100 id (gsca (fun args _ (n:Nat)=>args = [U64 n]∧n≤12) fun _ v=>∃ k,v = I k):=by
 refine comp100.gsca (Tab.cons 158 _ len158 body158 (Tab.nil _)) (fun args G s h=>?_) (fun args G n h=>?_)
 ·obtain ⟨rfl,_⟩:=h;simp
 ·obtain ⟨rfl,hn⟩:=h
  (conv=>whnf)
  refine ScaP.mk ⟨n,rfl,hn⟩ (fun v hv=>W.mk ?_)
  obtain ⟨_,_,k,rfl⟩:=hv
  (conv=>whnf)
  exact FinP.mk ⟨k,rfl⟩
end Go.Proofs.YtefnikpoimaiiaaGreat

namespace Go.Proofs.YtefnikpoimaiiaaGreat
open Go.Pal Go.RowKit
set_option maxRecDepth 100000
/-! ### Rows of elements -/
theorem fl_at {α:Type} {E:El α} {l:List α} {i off:Nat} (h:i < l.length) (ho:off = i * E.k):((flat E l).drop off).take E.k = E.f l[i]:=by
 subst ho
 have:=flat_at E l [] h
 rwa [List.append_nil] at this
theorem fl_set {α:Type} {E:El α} {l:List α} {i off:Nat} (x:α) (h:i < l.length) (ho:off = i * E.k):(flat E l).take off++E.f x++(flat E l).drop (off + E.k) = flat E (l.set i x):=by
 subst ho
 have hf:=E.len l[i]
 have:=flat_set E l [] (E.f x) (d:=0) (n:=E.k) (x:=x) h (by omega) (by rw [List.take_zero,List.nil_append,Nat.zero_add,List.drop_of_length_le (by omega),List.append_nil])
 simpa using this
theorem fl_inj {α:Type} {E:El α} (hk:0 < E.k):∀ {l l':List α},flat E l = flat E l'→l = l'
 | [],[],_=>rfl
 | [],y :: l',h=>by
  have:=congrArg List.length h
  rw [flat_len,flat_len,List.length_cons,List.length_nil,Nat.zero_mul] at this
  have h2:=Nat.mul_pos (Nat.succ_pos l'.length) hk
  rw [Nat.succ_eq_add_one] at h2
  omega
 | x :: l,[],h=>by
  have:=congrArg List.length h
  rw [flat_len,flat_len,List.length_cons,List.length_nil,Nat.zero_mul] at this
  have h2:=Nat.mul_pos (Nat.succ_pos l.length) hk
  rw [Nat.succ_eq_add_one] at h2
  omega
 | x :: l,y :: l',h=>by
  have h:E.f x++flat E l = E.f y++flat E l':=h
  obtain ⟨h1,h2⟩:=List.append_inj h (by rw [E.len,E.len])
  rw [E.inj h1,fl_inj hk h2]
theorem den_set_eqX {P:Program} {hid:Nat} {Gr G:Hp} {K:SV→List (Nat × Option OB)→Hp→Prop} {h b n cap:Nat} {vs vs' rest:List Value} {t:TypeId} {k:Nat} {sv:SV} (e:vs = vs') (hk:Res.den P hid Gr G K (.set h (.xrow b n cap vs' rest t k) sv)):Res.den P hid Gr G K (.set h (.xrow b n cap vs rest t k) sv):=by
 subst e;exact hk
/-! ### Sorted by a key -/
def Sorted (l:List Int):Prop:=∀ p q,p < q→q < l.length→l.getD p 0≤l.getD q 0
theorem getD_set (l:List Int) (i p:Nat) (x:Int) (h:i < l.length):(l.set i x).getD p 0 = if p = i then x else l.getD p 0:=by
 simp only [List.getD_eq_getElem?_getD,List.getElem?_set]
 by_cases hp:i = p
 ·subst hp;simp [h]
 ·rw [if_neg hp,if_neg (fun e=>hp e.symm)]
structure InsI (l:List Int) (i j:Nat):Prop where
 a:∀ p q,p < q→q≤i→p≠j→q≠j→l.getD p 0≤l.getD q 0
 b:∀ q,j < q→q≤i→l.getD j 0≤l.getD q 0
theorem InsI.start {l:List Int} {i:Nat} (h:∀ p q,p < q→q < i→l.getD p 0≤l.getD q 0):InsI l i i:=⟨fun p q h1 h2 _ h4=>h p q h1 (by omega),fun q h1 h2=>by omega⟩
theorem InsI.stop {l:List Int} {i j:Nat} (h:InsI l i j) (hj:j = 0∨l.getD (j - 1) 0≤l.getD j 0):∀ p q,p < q→q < i + 1→l.getD p 0≤l.getD q 0:=fun p q h1 h2=>by
 by_cases hp:p = j
 ·subst hp;exact h.b q h1 (by omega)
 ·by_cases hq:q = j
  ·subst hq
   rcases hj with hj | hj
   ·omega
   ·by_cases hp1:p = q - 1
    ·subst hp1;exact hj
    ·exact Int.le_trans (h.a p (q - 1) (by omega) (by omega) hp (by omega)) hj
  ·exact h.a p q h1 (by omega) hp hq
theorem InsI.step {l:List Int} {i j:Nat} (h:InsI l i j) (hi:i < l.length) (hji:j≤i) (hj:0 < j) (hlt:l.getD j 0 < l.getD (j - 1) 0):InsI ((l.set j (l.getD (j - 1) 0)).set (j - 1) (l.getD j 0)) i (j - 1):=by
 have g:∀ p,((l.set j (l.getD (j - 1) 0)).set (j - 1) (l.getD j 0)).getD p 0 = if p = j - 1 then l.getD j 0 else if p = j then l.getD (j - 1) 0 else l.getD p 0:=fun p=>by
  rw [getD_set _ _ _ _ (by rw [List.length_set];omega),getD_set _ _ _ _ (by omega)]
 refine ⟨fun p q h1 h2 h3 h4=>?_,fun q h1 h2=>?_⟩
 ·rw [g,g,if_neg h3,if_neg h4]
  by_cases hq:q = j
  ·rw [if_pos hq,if_neg (by omega)]
   exact h.a p (j - 1) (by omega) (by omega) (by omega) (by omega)
  ·rw [if_neg hq]
   by_cases hp:p = j
   ·rw [if_pos hp]
    exact h.a (j - 1) q (by omega) h2 (by omega) hq
   ·rw [if_neg hp]
    exact h.a p q h1 h2 hp hq
 ·rw [g,g,if_pos rfl,if_neg (by omega)]
  by_cases hq:q = j
  ·rw [if_pos hq];omega
  ·rw [if_neg hq];exact h.b q (by omega) h2
theorem swap_perm {α:Type} {l:List α} {j:Nat} (hj:0 < j) (h:j < l.length):((l.set j (l[j - 1]'(by omega))).set (j - 1) l[j]).Perm l:=List.set_set_perm h (by omega)
theorem keyD {α:Type} {l:List α} {K:α→Int} {i:Nat} (h:i < l.length):(l.map K).getD i 0 = K l[i]:=by simp [h]
/-! ### Insertion sort -/
abbrev rowP (b n0 n cap:Nat) (l:List Pc) (rest:List Value):LE:=⟨b,true, .row n0 n cap (flat pcE l) rest 119 5⟩
def sortP (f:Value→Nat→List Value) (args:List Value) (ls:List LE):Prop:=∃ b n0 n cap l rest,args = f (.slice (some ⟨b,0,none⟩) n cap) n∧ls = [rowP b n0 n cap l rest]∧1≤n∧n≤12∧l.length = n∧∀ x∈l,SmP x
def sortQ (f:Value→Nat→List Value) (args:List Value) (ls:List LE) (v:Value) (ns:List LB):Prop:=∃ b n0 n cap l rest l',args = f (.slice (some ⟨b,0,none⟩) n cap) n∧ls = [rowP b n0 n cap l rest]∧v = .tuple #[]∧ns = [.row n0 n cap (flat pcE l') rest 119 5]∧l'.Perm l∧Sorted (l'.map keyP)
abbrev sortS (f:Value→Nat→List Value):PSpec:=.st (fun args ls _=>sortP f args ls) (fun args ls v ns _=>sortQ f args ls v ns)
theorem isort149:Sound Tryz.prog 149 id (sortS fun s n=>[s,I 0,I n,fnV 70]):=by
 refine ⟨fun args ls v ns G G' hg h=>h,fun args ls G Wd hsub hls hnd hpre=>?_⟩
 obtain ⟨b,n0,n,cap,l,rest,rfl,rfl,hn1,hn3,hll,hsm⟩:=hpre
 have hone:=(hls (rowP b n0 n cap l rest) (by simp)).2.2
 obtain ⟨z1,z2,z3,z4,z5,z6⟩:=hone
 refine st_sound (Tab.nil _) comp149 (svs:=[.c (.row 0 n), .v (I 0), .v (I n), .v (fnV 70)]) (obs:=[.xrow b n cap (flat pcE l) rest 119 5]) (by simp) hsub hls hnd (Nat.le_refl _) ?_ ?_ ?_
 ·exact ⟨⟨rfl,_,_,rfl⟩,(Nat.le_of_ble_eq_true rfl:0 < 1),rfl,trivial,rfl,trivial,rfl,trivial,trivial⟩
 ·exact ⟨rfl,trivial⟩
 ·(conv=>whnf)
  repeat' (refine ob ?_ ?_;(first | trivial | omega | (simp only [inR];omega) | exact ble (by rfl) | exact SlR.some ‹_› (by omega));(conv=>whnf))
  refine LoopP.of { α:=Nat × List Pc,fr:=fun x=>[(0, .c (.row 0 n)),(1, .v (I 0)),(2, .v (I n)),(3, .v (fnV 70)),(8, .v (I x.1))],H:=fun x=>[(0, .xrow b n cap (flat pcE x.2) rest 119 5)],ok:=fun x _=>1≤x.1∧x.1≤n∧x.2.Perm l∧x.2.length = n∧∀ p q,p < q→q < x.1→(x.2.map keyP).getD p 0≤(x.2.map keyP).getD q 0,m:=fun x=>n - x.1 }
   (1,l) (HeadP.of [] ⟨rfl,rfl,rfl,rfl,rfl,trivial⟩ ⟨rfl,trivial⟩) ⟨Nat.le_refl _,hn1,List.Perm.refl _,hll,fun p q h1 h2=>by omega⟩ (fun _=>⟨rfl,rfl⟩) (fun x G1 hG1 hx=>W.mk ?_)
  obtain ⟨i,l1⟩:=x
  obtain ⟨hi1,hin,hp1,hl1,hs1⟩:=hx
  dsimp only at hi1 hin hp1 hl1 hs1
  dsimp only
  (conv=>whnf)
  refine IteP.mk (fun hlt=>W.mk ?_) (fun hge=>W.mk ?_)<;>(conv=>whnf)
  ·have hlt:i < n:=by omega
   refine LoopP.of { α:=Nat × List Pc,fr:=fun x=>[(0, .c (.row 0 n)),(1, .v (I 0)),(2, .v (I n)),(3, .v (fnV 70)),(8, .v (I i)),(9, .v (I x.1))],H:=fun x=>[(0, .xrow b n cap (flat pcE x.2) rest 119 5)],ok:=fun x _=>x.1≤i∧x.2.Perm l∧x.2.length = n∧InsI (x.2.map keyP) i x.1,m:=fun x=>x.1 }
    (i,l1) (HeadP.of [] ⟨rfl,rfl,rfl,rfl,rfl,rfl,trivial⟩ ⟨rfl,trivial⟩) ⟨Nat.le_refl _,hp1,hl1,InsI.start hs1⟩ (fun _=>⟨rfl,rfl⟩) (fun x G2 hG2 hx=>W.mk ?_)
   obtain ⟨j,l2⟩:=x
   obtain ⟨hji,hp2,hl2,hI⟩:=hx
   dsimp only at hji hp2 hl2 hI
   have next:∀ (h:j = 0∨(l2.map keyP).getD (j - 1) 0≤(l2.map keyP).getD j 0), ∀ p q,p < q→q < i + 1→(l2.map keyP).getD p 0≤(l2.map keyP).getD q 0:=fun h=>hI.stop h
   dsimp only
   (conv=>whnf)
   refine IteP.mk (fun hj0=>W.mk ?_) (fun hj0=>W.mk ?_)<;>(conv=>whnf)
   ·have hj0:0 < j:=by omega
    have hjl:j < l2.length:=by omega
    have hjl1:j - 1 < l2.length:=by omega
    have e0:(((j:Int) - 1).toNat) = j - 1:=by omega
    have hs2:∀ x∈l2,SmP x:=fun x hx=>hsm x (hp2.mem_iff.1 hx)
    repeat' (first | (refine OblP.mk rfl (W.mk ?_);(conv=>whnf)) | (refine ob ?_ ?_;(first | trivial | omega | (simp only [inR];omega) | exact ble (by rfl) | exact SlR.some ‹_› (by omega));(conv=>whnf)))
    refine EqP.mk ⟨pcE.f l2[j],fl_at (E:=pcE) hjl rfl,rfl,W.mk ?_⟩
    (conv=>whnf)
    repeat' (first | (refine OblP.mk rfl (W.mk ?_);(conv=>whnf)) | (refine ob ?_ ?_;(first | trivial | omega | (simp only [inR];omega) | exact ble (by rfl) | exact SlR.some ‹_› (by omega));(conv=>whnf)))
    refine EqP.mk ⟨pcE.f l2[j - 1],fl_at (E:=pcE) hjl1 (by show ((j:Int) - 1).toNat * 5 = (j - 1) * 5;rw [e0]),rfl,W.mk ?_⟩
    (conv=>whnf)
    refine FnvP.mk ⟨_,SoundFn.of body70 (Sound.bare cmp70),W.mk ?_⟩
    (conv=>whnf)
    refine ScaP.g (ok2 pcRd pcRd fun x y=>SmP x∧SmP y) (x:=(l2[j],l2[j - 1])) ⟨_,_,rfl,rfl,rfl,hs2 _ (List.getElem_mem hjl),hs2 _ (List.getElem_mem hjl1)⟩ (fun v hv=>W.mk ?_)
    obtain ⟨e,rfl,he⟩:=hv
    dsimp only at he
    have g1:(l2.map keyP).getD j 0 = keyP l2[j]:=keyD hjl
    have g2:(l2.map keyP).getD (j - 1) 0 = keyP l2[j - 1]:=keyD hjl1
    (conv=>whnf)
    refine IteP.mk (fun hc=>W.mk ?_) (fun hc=>W.mk ?_)<;>(conv=>whnf)
    ·have hc:keyP l2[j] < keyP l2[j - 1]:=he.1 hc
     repeat' (first | (refine OblP.mk rfl (W.mk ?_);(conv=>whnf)) | (refine ob ?_ ?_;(first | trivial | omega | (simp only [inR];omega) | exact ble (by rfl) | exact SlR.some ‹_› (by omega));(conv=>whnf)))
     refine EqP.mk ⟨pcE.f l2[j - 1],fl_at (E:=pcE) hjl1 (by show ((j:Int) - 1).toNat * 5 = (j - 1) * 5;rw [e0]),rfl,W.mk ?_⟩
     (conv=>whnf)
     repeat' (first | (refine OblP.mk rfl (W.mk ?_);(conv=>whnf)) | (refine ob ?_ ?_;(first | trivial | omega | (simp only [inR];omega) | exact ble (by rfl) | exact SlR.some ‹_› (by omega));(conv=>whnf)))
     refine EqP.mk ⟨pcE.f l2[j],fl_at (E:=pcE) hjl rfl,rfl,W.mk ?_⟩
     (conv=>whnf)
     refine OblP.mk (by omega) (W.mk ?_)
     (conv=>whnf)
     refine OblP.mk rfl (W.mk ?_)
     (conv=>whnf)
     refine OblP.mk (by show (j:Int).toNat * 5 + 5≤_;rw [flat_len,show pcE.k = 5 from rfl,Int.toNat_natCast];omega) (W.mk ?_)
     refine den_set_eqX (fl_set (E:=pcE) (l:=l2) (i:=j) (off:=(j:Int).toNat * 5) l2[j - 1] hjl rfl) ?_
     (conv=>whnf)
     refine OblP.mk (by omega) (W.mk ?_)
     (conv=>whnf)
     refine OblP.mk rfl (W.mk ?_)
     (conv=>whnf)
     refine OblP.mk (by show ((j:Int) - 1).toNat * 5 + 5≤_;rw [flat_len,List.length_set,show pcE.k = 5 from rfl,e0];omega) (W.mk ?_)
     refine den_set_eqX (fl_set (E:=pcE) (l:=l2.set j l2[j - 1]) (i:=j - 1) (off:=((j:Int) - 1).toNat * 5) l2[j] (by rw [List.length_set];omega) (by show ((j:Int) - 1).toNat * 5 = (j - 1) * 5;rw [e0])) ?_
     (conv=>whnf)
     repeat' (refine ob ?_ ?_;(first | trivial | omega | (simp only [inR];omega) | exact ble (by rfl) | exact SlR.some ‹_› (by omega));(conv=>whnf))
     have hI2:=hI.step (by rw [List.length_map];omega) hji hj0 (by rw [g1,g2];exact hc)
     have hp3:=swap_perm hj0 hjl
     rw [g1,g2, ← List.map_set, ← List.map_set] at hI2
     have hji2:SV.v (I ((j - 1:Nat):Int)) = SV.v (I ((j:Int) - 1)):=by rw [show ((j - 1:Nat):Int) = (j:Int) - 1 by omega]
     refine RoundP.of (j - 1,(l2.set j l2[j - 1]).set (j - 1) l2[j]) (HeadP.of [] ⟨rfl,rfl,rfl,rfl,rfl,hji2,trivial⟩ ⟨rfl,trivial⟩) ⟨by show j - 1≤i;omega,hp3.trans hp2,by simp [hl2],hI2⟩ (by simp only;omega)
    ·have hc:¬ keyP l2[j] < keyP l2[j - 1]:=fun h=>hc (he.2 h)
     repeat' (refine ob ?_ ?_;(first | trivial | omega | (simp only [inR];omega) | exact ble (by rfl) | exact SlR.some ‹_› (by omega));(conv=>whnf))
     refine RoundP.of (i + 1,l2) (HeadP.of [] ⟨rfl,rfl,rfl,rfl,rfl,trivial⟩ ⟨rfl,trivial⟩) ⟨by show 1≤i + 1;omega,hlt,hp2,hl2,next (.inr (by rw [g1,g2];omega))⟩ (by simp only;omega)
   ·repeat' (refine ob ?_ ?_;(first | trivial | omega | (simp only [inR];omega) | exact ble (by rfl) | exact SlR.some ‹_› (by omega));(conv=>whnf))
    refine RoundP.of (i + 1,l2) (HeadP.of [] ⟨rfl,rfl,rfl,rfl,rfl,trivial⟩ ⟨rfl,trivial⟩) ⟨by show 1≤i + 1;omega,hlt,hp2,hl2,next (.inl (by omega))⟩ (by simp only;omega)
  ·have hie:i = n:=by omega
   subst hie
   refine FinS.mk ⟨[_],⟨.row n0 i cap (flat pcE l1) rest 119 5,⟨rfl,z1⟩,⟨rfl,rfl,rfl,rfl,rfl⟩,[],rfl,rfl⟩,b,n0,i,cap,l,rest,l1,rfl,rfl,rfl,rfl,hp1,fun p q h1 h2=>hs1 p q h1 (by rw [List.length_map] at h2;omega)⟩
end Go.Proofs.YtefnikpoimaiiaaGreat

namespace Go.Proofs.YtefnikpoimaiiaaGreat
open Go.Pal
theorem next_dep {m:Mt} {choice now:List Int} (hch:ChOk m choice):∀ (k:Nat) (c:Int),c∈choice→c ∉ now→upK m k (ofOf m c) = 0→∃ d∈choice,d ∉ now∧(ofOf m d = 0∨ofOf m d∈now)
 | 0,c,h1,h2,h3=>⟨c,h1,h2, .inl h3⟩
 | k + 1,c,h1,h2,h3=>by
  by_cases h0:ofOf m c = 0
  ·exact ⟨c,h1,h2, .inl h0⟩
  ·by_cases hn:ofOf m c∈now
   ·exact ⟨c,h1,h2, .inr hn⟩
   ·rw [upK,if_neg h0] at h3
    obtain ⟨p,hp⟩:=hch.mem c h1
    have ho:ofOf m c = p.c.of:=by rw [ofOf,hp]
    exact next_dep hch k (ofOf m c) (by rw [ho];exact hch.cl c h1 p hp (by rw [← ho];exact h0)) hn h3
theorem next_ex {m:Mt} (hok:MtOk m) {choice now:List Int} (hch:ChOk m choice) {c:Int} (h1:c∈choice) (h2:c ∉ now):∃ d∈choice,d ∉ now∧(ofOf m d = 0∨ofOf m d∈now):=by
 obtain ⟨p,hp⟩:=hch.mem c h1
 exact next_dep hch m.ps.length c h1 h2 (by rw [ofOf,hp];exact hok.ends p (pOf_mem hp).1)
theorem next_ok {m:Mt} {choice now:List Int} (hch:ChOk m choice) (hnow:∀ x∈now,x∈choice) (hcl:ChOk m now) {d:Int} (hd:d∈choice) (hof:ofOf m d = 0∨ofOf m d∈now):ChOk m (choice.filter fun x=>decide (x∈now) || decide (x = d)):=by
 have hsub:∀ x,x∈choice.filter (fun x=>decide (x∈now) || decide (x = d))↔x∈choice∧(x∈now∨x = d):=fun x=>by simp [List.mem_filter]
 refine ⟨hch.inc.sublist List.filter_sublist,fun c hc=>hch.mem c ((hsub c).1 hc).1,fun c hc p hp h0=>?_,fun a ha b hb=>hch.nc a ((hsub a).1 ha).1 b ((hsub b).1 hb).1⟩
 obtain ⟨q1,q2 | rfl⟩:=(hsub c).1 hc
 ·have:=hcl.cl c q2 p hp h0
  exact (hsub _).2 ⟨hnow _ this, .inl this⟩
 ·have ho:ofOf m c = p.c.of:=by rw [ofOf,hp]
  rw [ho] at hof
  rcases hof with h | h
  ·exact absurd h h0
  ·exact (hsub _).2 ⟨hnow _ h, .inl h⟩
theorem next_more {choice now:List Int} (hc:choice.Nodup) (hnow:∀ x∈now,x∈choice) (hn:now.Nodup) {d:Int} (hd:d∈choice) (hdn:d ∉ now):(choice.filter fun x=>decide (x∈now) || decide (x = d)).length = now.length + 1:=by
 have hp:(choice.filter fun x=>decide (x∈now) || decide (x = d)).Perm (d :: now):=by
  refine (List.perm_ext_iff_of_nodup (hc.sublist List.filter_sublist) (List.nodup_cons.2 ⟨hdn,hn⟩)).2 fun x=>?_
  simp only [List.mem_filter,Bool.or_eq_true,decide_eq_true_eq,List.mem_cons]
  constructor
  ·rintro ⟨_,h | h⟩
   ·exact .inr h
   ·exact .inl h
  ·rintro (h | h)
   ·exact ⟨h ▸ hd, .inr h⟩
   ·exact ⟨hnow x h, .inl h⟩
 rw [hp.length_eq,List.length_cons]
end Go.Proofs.YtefnikpoimaiiaaGreat
