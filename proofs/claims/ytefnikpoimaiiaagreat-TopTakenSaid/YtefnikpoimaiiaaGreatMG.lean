/- Layer 3: slices.Insert over a row of the own heap. Layer 3: a sheet's items are put in; the changes of a sheet that can be undone; undo. Layer 3: undo. -/
import Derived.Test.YtefnikpoimaiiaaGreatMF
import Derived.Laws.Externs
import Derived.Lib.Overlaps
set_option linter.unusedSimpArgs false
set_option linter.unusedVariables false
namespace Go.Proofs.YtefnikpoimaiiaaGreat
open Go.Pal Go.RowKit
set_option maxRecDepth 100000
theorem cut_n {b o k:Nat} {x y:Int} (l m:Nat) (hx:x = l) (hy:y = m) (h:l < m):cutA (some ⟨b,o,none⟩) x.toNat y.toNat k = some ⟨b,o + l * k,none⟩:=by
 subst hx;subst hy
 exact cut_lt h
theorem cut_0 {b o k:Nat} {x y:Int} (m:Nat) (hx:x = 0) (hy:y = m) (h:0 < m):cutA (some ⟨b,o,none⟩) x.toNat y.toNat k = some ⟨b,o,none⟩:=by
 rw [cut_n 0 m hx hy h,Nat.zero_mul,Nat.add_zero]
theorem run_overlaps_own {P:Program} (w:World) (tS tR e:TypeId) (ht:P.underlying tS = some (.slice e)) (size:Nat) (hz:∀ w,(Go.sizeOf e).run P w = .ok size w)
  (a b:Addr) (la ca lb cb:Nat) (hne:a.block≠b.block) (tA tB:TypeId) (kA kB:Nat)
  (hsa:w.shape? a.block = some (tA,kA)) (hsb:w.shape? b.block = some (tB,kB)) (hkA:kA≠0)
  (hfb:w.frozen? b = false) (hfe:w.frozen? { block:=b.block,off:=kB } = false) :
  (Extern.SlicesOverlaps.overlaps #[tS,tS] #[tR] #[.slice (some a) la ca, .slice (some b) lb cb]).run P w = .ok (.bool false) w:=by
 have hnb:(a.block != b.block) = true:=by simpa using hne
 have hnb':(a.block == b.block) = false:=by simpa using hne
 change Sem.run P (α:=Value) (do
  let some t := (#[tS, tS] : Array TypeId)[0]? | stuck "slices.overlaps: no parameter types"
  let .slice elem ← underlying t | stuck "slices.overlaps: slice type expected"
  let size ← sizeOf elem
  match (some a:Option Addr),(some b:Option Addr) with
  | some a,some b =>
   if la = 0∨lb = 0∨size = 0 then pure (Value.bool false)
   else if a.block != b.block && (← frozen a) && (← frozen b) then unsupported .addressObserved
   else do
    if a.block != b.block then do
     noView a;noView b
     if ← mayBeOne a b then return Value.bool ((← choose (.extern "sameAddr.stringBytes" 2)) == 1)
    pure (Value.bool (a.block == b.block && a.off < b.off + lb * size && b.off < a.off + la * size))
  | _,_=>pure (Value.bool false)) w = _
 by_cases h0:la = 0∨lb = 0∨size = 0
 ·simp [run_underlying ht,hz,h0]
 ·cases kA with
  | zero=>exact absurd rfl hkA
  | succ kA =>
   cases hfa:w.frozen? a<;>cases hfa2:w.frozen? { block:=a.block,off:=kA + 1 }<;>simp [run_underlying ht,hz,h0,hnb,hnb',frozen,noView,viewAt,mayBeOne,stringish,shape,Sem.run,hsa,hsb,hfa,hfa2,hfb,hfe]
theorem size102 (w:World):(Go.sizeOf 164).run Tryz.prog w = .ok 4 w:=rfl
theorem ext118 (G p:Hp) {a b:Nat} {o1 o2 n1 c1 n2 c2:Nat} {ca cb:List Value} (h1:CellsAt G a o1 ca) (hn:ca≠[]) {t:TypeId} (h2:p b = some (.cells cb.toArray t (0,0))) (d:G b = none) (w:World) (hs:Sub G w) (hp:∀ b o,p b = some o→w.heap[b]? = some o) :
  (callFunc 212 #[.slice (some ⟨a,o1,none⟩) n1 c1, .slice (some ⟨b,o2,none⟩) n2 c2]).run Tryz.prog w = .ok (.value (.bool false)) w:=by
 obtain ⟨v,hv⟩:∃ v,ca[0]? = some v:=by cases ca with
  | nil=>exact absurd rfl hn
  | cons v r=>exact ⟨v,rfl⟩
 have h3:=h1 0 v hv
 unfold rd1 at h3
 cases hG:G a with
 | none=>simp [hG] at h3
 | some o =>
  rw [hG] at h3
  cases o with
  | cells cs tA fz =>
   have hlt:=(Array.getElem?_eq_some_iff.1 h3).1
   have ha:=hs _ _ hG
   have hb:=hp _ _ h2
   have hne:a≠b:=fun e=>by rw [e,d] at hG;cases hG
   rw [run_callFunc_extern Tryz.func212 (by kernel_rfl) (by kernel_rfl) (by kernel_rfl) (e:=Extern.SlicesOverlaps.overlaps #[165,165] #[4]) (by kernel_rfl),
    run_overlaps_own (kA:=cs.size) (kB:=cb.toArray.size) w 165 4 164 (by kernel_rfl) 4 size102 ⟨a,o1,none⟩ ⟨b,o2,none⟩ n1 c1 n2 c2 hne tA t (by simp [World.shape?,ha]) (by simp [World.shape?,hb]) (by omega) (by simp [World.frozen?,hb]) (by simp [World.frozen?,hb])]
   rfl
  | _=>simp at h3
theorem ins_in (A B R V:List Value) (h:V.length≤R.length) :
  (((A++B++R).take (A.length + V.length)++B++(A++B++R).drop (A.length + V.length + B.length)).take A.length++V++((A++B++R).take (A.length + V.length)++B++(A++B++R).drop (A.length + V.length + B.length)).drop (A.length + V.length)) = A++V++B++R.drop V.length:=by
 have h1:((A++B++R).take (A.length + V.length)).length = A.length + V.length:=by simp;omega
 have h2:(A++B++R).drop (A.length + V.length + B.length) = R.drop V.length:=by
  rw [List.drop_append,List.drop_of_length_le (by rw [List.length_append];omega),List.nil_append,List.length_append,show A.length + V.length + B.length - (A.length + B.length) = V.length by omega]
 have h3:((A++B++R).take (A.length + V.length)).take A.length = A:=by
  rw [List.take_take,Nat.min_eq_left (by omega),List.append_assoc,List.take_append_of_le_length (Nat.le_refl _),List.take_length]
 generalize (A++B++R).take (A.length + V.length) = X at h1 h3
 rw [h2,List.append_assoc X,List.take_append_of_le_length (by omega),h3,List.drop_append,List.drop_of_length_le (by omega),h1,Nat.sub_self,List.drop_zero]
 simp
theorem ins_new (A B R V Z:List Value) (h:Z.length = V.length + B.length) :
  (((A++Z++R).take A.length++V++(A++Z++R).drop (A.length + V.length)).take (A.length + V.length)++B++((A++Z++R).take A.length++V++(A++Z++R).drop (A.length + V.length)).drop (A.length + V.length + B.length)) = A++V++B++R:=by
 have h1:(A++Z++R).take A.length = A:=by rw [List.append_assoc,List.take_append_of_le_length (Nat.le_refl _),List.take_length]
 have h2:((A++Z++R).drop (A.length + V.length)).drop B.length = R:=by
  rw [List.drop_drop,List.drop_append,List.drop_of_length_le (by simp;omega),List.nil_append]
  rw [show A.length + V.length + B.length - (A++Z).length = 0 by simp;omega,List.drop_zero]
 rw [h1]
 generalize (A++Z++R).drop (A.length + V.length) = X at h2
 have h4:(A++V++X).drop (A.length + V.length) = X:=by
  rw [List.drop_append,List.drop_of_length_le (by simp),show A.length + V.length - (A++V).length = 0 by simp,List.drop_zero,List.nil_append]
 rw [List.take_append_of_le_length (by simp),List.take_of_length_le (by simp), ← List.drop_drop,h4,h2]
theorem KeepHp.new {F:Nat→Prop} {p:Hp} {b:Nat} {o:Option Obj} (h:p b = none):KeepHp F p (upd p b o):=fun k _ _ e=>by
 rw [upd_other _ _ (fun hk=>by rw [hk,h] at e;cases e)];exact e
theorem KeepHp.set {F:Nat→Prop} {p:Hp} {b:Nat} {o:Option Obj} (h:F b):KeepHp F p (upd p b o):=fun k _ hf e=>by
 rw [upd_other _ _ (fun hk=>hf (by rw [hk];exact h))];exact e
theorem KeepHp.set2 {F:Nat→Prop} {p:Hp} {b:Nat} {o o':Option Obj} (h:F b):KeepHp F p (upd (upd p b o) b o'):=(KeepHp.set h).trans (KeepHp.set h)
theorem KeepHp.new3 {F:Nat→Prop} {p:Hp} {b:Nat} {o o' o2:Option Obj} (h:p b = none):KeepHp F p (upd (upd (upd p b o) b o') b o2):=fun k _ _ e=>by
 have:k≠b:=fun hk=>by rw [hk,h] at e;cases e
 rw [upd_other _ _ this,upd_other _ _ this,upd_other _ _ this];exact e
theorem insF_len {α:Type} (l v:List α) {i:Nat} (hi:i≤l.length):(insF l i v).length = l.length + v.length:=by
 simp only [insF,List.length_append,List.length_take,List.length_drop];omega
theorem ins110d (l v:List It) (i:Nat) (hi:i≤l.length) (hl9:l.length≤100000) (hv9:v.length≤100000) (lv pv:Value):Sound Tryz.prog 179 id (.hp (fun args p G=>Disj p G∧args = [lv,I (i:Nat),pv]∧RowH itE 164 p lv l∧SlV itE G pv v) fun _ p w p' _=>RowH itE 164 p' w (insF l i v)∧KeepHp (fun k=>blkOf lv = some k) p p'):=by
 refine comp110.hp (Tab.nil _) (fun args p G h=>?_) (fun args p v p' G G' hg h=>h) (fun args p G h=>?_)
 ·obtain ⟨_,rfl,_⟩:=h;simp
 ·obtain ⟨hdj,rfl,hrow,hpv⟩:=h
  obtain ⟨pa,pn,pc,rfl,hp1,hp2⟩:=id hpv
  have hplen:=hp1.len
  have hsh:∃ a n c,lv = .slice a n c∧n = l.length∧n≤c:=by
   rcases hrow with ⟨rfl,rfl⟩ | ⟨b',c',rest,rfl,_,_,h,_⟩
   ·exact ⟨_,_,_,rfl,rfl,Nat.le_refl _⟩
   ·exact ⟨_,_,_,rfl,rfl,h⟩
  obtain ⟨a,n,c,rfl,rfl,hc⟩:=hsh
  (conv=>whnf)
  refine OblP.mk ⟨by omega,by omega,by omega,by omega⟩ (W.mk ?_)
  (conv=>whnf)
  refine IteP.mk (fun h0=>W.mk ?_) (fun h0=>W.mk ?_)<;>(conv=>whnf)
  ·refine NmP.mk ⟨[],W.mk ?_⟩
   (conv=>whnf)
   have:v = []:=List.eq_nil_of_length_eq_zero (by omega)
   subst this
   refine FinHp.of rfl ⟨?_,KeepHp.refl⟩
   rw [insF,List.append_nil,List.take_append_drop]
   exact hrow
  refine IteP.mk (fun h1=>W.mk ?_) (fun h1=>W.mk ?_)<;>(conv=>whnf)
  ·have hil:i = l.length:=by omega
   subst hil
   have hins:insF l l.length v = l++v:=by simp [insF]
   have hpall:=hp1.all
   have hfl:(v.map itE.f).flatten.length = pn * 4:=hpall.2.1
   have hrdv:=fun (A:List Value→Prop) (k:W (A (flat itE v)))=>RdhP.g (p:=p) (A:=A) hpall.1 hfl k
   rcases hrow with ⟨h2,rfl⟩ | ⟨b',c',rest,h2,hb,hr,hc2,hm⟩
   ·cases h2
    (conv=>whnf)
    refine OblP.mk (fun h=>hp1.some h) (W.mk ?_)
    (conv=>whnf)
    refine hrdv _ (W.mk ?_)
    (conv=>whnf)
    refine OblP.mk hpall.2.2 (W.mk ?_)
    (conv=>whnf)
    refine OblP.mk ⟨by omega,by omega⟩ (W.mk ?_)
    (conv=>whnf)
    refine AppnP.mk (fun b' cap rest' hb1 hb2 hb3 hb4=>W.mk ?_)
    (conv=>whnf)
    refine NmP.mk ⟨[],W.mk ?_⟩
    (conv=>whnf)
    refine FinHp.of rfl ⟨.inr ⟨b',cap,rest', ?_,by rw [hins];exact upd_same _ _ _, ?_, ?_,hb3⟩,KeepHp.new hb1⟩
    ·rw [hins,List.nil_append,hplen];rfl
    ·rw [hins,List.nil_append,hplen];exact hb4
    ·rw [hins,List.nil_append,hplen];exact hb2
   ·cases h2
    have hnw:=fun (b' cap:Nat) (rest':List Value)=>RowH.appNew (t:=164) (p:=p) (b:=b') (c:=cap) (l:=l) (us:=v) (vs:=(flat itE l++rest).take (l.length * itE.k)) (rest':=rest') take_flat
    have hin:=fun hc2=>RowH.appIn (t:=164) (p:=p) (b:=b') (us:=v) hr hc2 hm
    have hone:∀ u∈(flat itE l++rest).take (l.length * itE.k),u.oneCell' = true:=by rw [take_flat];exact flat_one _ _
    have hlen2:(flat itE l++rest).length = c * 4:=by rw [List.length_append,flat_len,hr,show itE.k = 4 from rfl];omega
    rw [hplen] at hnw hin
    (conv=>whnf)
    refine HpkP.mk ⟨_,164,hb,W.mk ?_⟩
    (conv=>whnf)
    refine OblP.mk ⟨rfl,rfl,hlen2,hc2,hm,hone⟩ (W.mk ?_)
    (conv=>whnf)
    refine OblP.mk (fun h=>hp1.some h) (W.mk ?_)
    (conv=>whnf)
    refine hrdv _ (W.mk ?_)
    (conv=>whnf)
    refine OblP.mk hpall.2.2 (W.mk ?_)
    (conv=>whnf)
    refine OblP.mk ⟨by omega,by omega⟩ (W.mk ?_)
    (conv=>whnf)
    refine IteP.mk (fun hcap=>W.mk ?_) (fun hcap=>W.mk ?_)<;>(conv=>whnf)
    ·refine NmP.mk ⟨[],W.mk ?_⟩
     (conv=>whnf)
     refine FinHp.of rfl ⟨by rw [hins];exact hin (by omega),KeepHp.set rfl⟩
    ·refine AppnP.mk (fun b2 cap rest' hb1 hb2 hb3 hb4=>W.mk ?_)
     (conv=>whnf)
     refine NmP.mk ⟨[],W.mk ?_⟩
     (conv=>whnf)
     refine FinHp.of rfl ⟨by rw [hins];exact hnw b2 cap rest' hb4 hb2 hb3,KeepHp.new hb1⟩
  ·rcases hrow with ⟨h2,rfl⟩ | ⟨b',c',rest,h2,hb,hr,hc2,hm⟩
   ·exfalso;apply h1;simp only [List.length_nil] at hi ⊢;omega
   cases h2
   have hpall:=hp1.all
   have hfl:(v.map itE.f).flatten.length = pn * 4:=hpall.2.1
   have hVl:(flat itE v).length = pn * 4:=hfl
   have hlen2:(flat itE l++rest).length = c * 4:=by rw [List.length_append,flat_len,hr,show itE.k = 4 from rfl];omega
   repeat' (refine ob ?_ ?_;(first | trivial | omega | (simp only [inR];omega) | exact ble (by rfl) | exact SlR.some ‹_› (by omega));(conv=>whnf))
   refine IteP.mk (fun hcap=>W.mk ?_) (fun hcap=>W.mk ?_)<;>(conv=>whnf)
   ·refine OblP.mk ⟨by omega,by omega,by omega,by omega⟩ (W.mk ?_)
    (conv=>whnf)
    repeat' (refine ob ?_ ?_;(first | trivial | omega | (simp only [inR];omega) | exact ble (by rfl) | exact SlR.some ‹_› (by omega));(conv=>whnf))
    rw [cut_0 (x:=((0:Nat):Int)) (y:=(c:Int)) c rfl rfl (by omega)]
    refine HpkP.mk ⟨_,164,hb,W.mk ?_⟩
    (conv=>whnf)
    refine OblP.mk ⟨rfl,rfl,hlen2,by omega,by omega,by omega,by omega⟩ (W.mk ?_)
    (conv=>whnf)
    have hN:(((i:Nat):Int).toNat - ((0:Nat):Int).toNat + ((l.length:Int) + pn - i).toNat) = l.length + pn:=by omega
    have eA:(flat itE l++rest).take ((((i:Nat):Int).toNat - ((0:Nat):Int).toNat) * 4) = flat itE (l.take i):=by
     rw [flat_take itE l i hi,show (((i:Nat):Int).toNat - ((0:Nat):Int).toNat) = i by omega,List.take_append_of_le_length (by rw [flat_len,show itE.k = 4 from rfl];omega)]
     rfl
    obtain ⟨Z,hZ,hZl⟩:∃ Z,(Builtin.zeroCells (List.toArray [.string (ByteArray.mk #[]), .int .i64 0, .int .i64 0, .int .i64 0]) ((l.length:Int) + pn - i).toNat).toList = Z∧Z.length = (l.length + pn - i) * 4:=⟨_,rfl,by simp [Builtin.zeroCells];omega⟩
    have hAl:(flat itE (l.take i)).length = i * 4:=by rw [flat_len,List.length_take,Nat.min_eq_left hi];rfl
    have hBl:(flat itE (l.drop i)).length = (l.length - i) * 4:=by rw [flat_len,List.length_drop];rfl
    rw [hN,eA,hZ]
    refine AppnP.mk (fun b2 cap rest' hb1 hb2 hb3 hb4=>W.mk ?_)
    (conv=>whnf)
    refine OblP.mk ⟨by omega,by omega,by omega,by omega⟩ (W.mk ?_)
    (conv=>whnf)
    refine OblP.mk ⟨by omega,hp1.some (by omega)⟩ (W.mk ?_)
    (conv=>whnf)
    have hmin:min pn (((l.length + pn:Nat):Int).toNat - ((i:Nat):Int).toNat) = pn:=by omega
    rw [hmin,cut_n (x:=(i:Int)) (y:=(cap:Int)) i cap rfl rfl (by omega)]
    refine RdhP.g hpall.1 hfl (W.mk ?_)
    (conv=>whnf)
    refine OblP.mk hpall.2.2 (W.mk ?_)
    (conv=>whnf)
    refine HpkP.mk ⟨_,164,upd_same _ _ _,W.mk ?_⟩
    (conv=>whnf)
    rw [show ao (some (⟨b2,0 + i * 4,none⟩:Addr)) = i * 4 by simp,show ab (some (⟨b2,0 + i * 4,none⟩:Addr)) = b2 from rfl]
    refine OblP.mk ⟨by simp,by simp only [List.length_append,hAl,hZl];omega⟩ (W.mk ?_)
    generalize hC1:(flat itE (l.take i)++Z++rest').take (i * 4)++flat itE v++(flat itE (l.take i)++Z++rest').drop (i * 4 + pn * 4) = C1
    have hC1l:C1.length = cap * 4:=by rw [← hC1];simp only [List.length_append,List.length_take,List.length_drop,hAl,hZl,hb4,hVl];omega
    have hfinal:=ins_new (flat itE (l.take i)) (flat itE (l.drop i)) rest' (flat itE v) Z (by rw [hZl,hVl,hBl];omega)
    rw [hAl,hVl,hBl,hC1] at hfinal
    (conv=>whnf)
    repeat' (refine ob ?_ ?_;(first | trivial | omega | (simp only [inR];omega) | exact ble (by rfl) | exact SlR.some ‹_› (by omega));(conv=>whnf))
    rw [cut_n (x:=(i:Int)) (y:=(c:Int)) i c rfl rfl (by omega),cut_n (x:=(i:Int) + (pn:Int)) (y:=(cap:Int)) (i + pn) cap (by omega) rfl (by omega)]
    refine OblP.mk ⟨by omega,rfl⟩ (W.mk ?_)
    (conv=>whnf)
    have hne:b'≠b2:=fun h=>by rw [← h,hb] at hb1;cases hb1
    have hBd:(flat itE l).drop (i * 4) = flat itE (l.drop i):=(flat_drop itE l i hi).symm
    have hmin2:min (((l.length:Nat):Int).toNat - ((i:Nat):Int).toNat) (((l.length + pn:Nat):Int).toNat - ((i:Int) + (pn:Int)).toNat) = l.length - i:=by omega
    have hBe:flat itE (l.drop i) = ((flat itE l++rest).drop (ao (some (⟨b',0 + i * 4,none⟩:Addr)))).take ((l.length - i) * 4):=by
     rw [ao_some,Nat.zero_add,List.drop_append_of_le_length (by rw [flat_len,show itE.k = 4 from rfl];omega),hBd,List.take_append_of_le_length (by rw [hBl];omega),List.take_of_length_le (by rw [hBl];omega)]
    rw [hmin2]
    refine RdhP.mk ⟨flat itE (l.drop i),⟨by rw [hBl], .inr ⟨_,164,(upd_other _ _ hne).trans ((upd_other _ _ hne).trans hb),hBe⟩⟩,fun _=>W.mk ?_⟩
    (conv=>whnf)
    refine OblP.mk (flat_one _ _) (W.mk ?_)
    (conv=>whnf)
    refine HpkP.mk ⟨_,164,upd_same _ _ _,W.mk ?_⟩
    (conv=>whnf)
    rw [show ao (some (⟨b2,0 + (i + pn) * 4,none⟩:Addr)) = i * 4 + pn * 4 by simp [Nat.add_mul],show ab (some (⟨b2,0 + (i + pn) * 4,none⟩:Addr)) = b2 from rfl,hfinal]
    refine OblP.mk ⟨by simp [Nat.add_mul],by omega⟩ (W.mk ?_)
    (conv=>whnf)
    refine NmP.mk ⟨[],W.mk ?_⟩
    (conv=>whnf)
    refine FinHp.of rfl ⟨.inr ⟨b2,cap,rest', ?_, ?_, ?_, ?_,hb3⟩,KeepHp.new3 hb1⟩
    ·rw [insF_len l v hi,hplen];rfl
    ·rw [upd_same,insF,flat_app,flat_app]
    ·rw [insF_len l v hi,hplen];exact hb4
    ·rw [insF_len l v hi,hplen];exact hb2
   ·have hVl:(flat itE v).length = pn * 4:=hfl
    have hAl:(flat itE (l.take i)).length = i * 4:=by rw [flat_len,List.length_take,Nat.min_eq_left hi];rfl
    have hBl:(flat itE (l.drop i)).length = (l.length - i) * 4:=by rw [flat_len,List.length_drop];rfl
    have hrl:rest.length = (c - l.length) * 4:=hr
    have hfinal:=ins_in (flat itE (l.take i)) (flat itE (l.drop i)) rest (flat itE v) (by rw [hVl,hrl];omega)
    have hAB:flat itE (l.take i)++flat itE (l.drop i) = flat itE l:=by rw [← flat_app,List.take_append_drop]
    rw [hAB,hAl,hVl,hBl] at hfinal
    have hab:pn≠0:=by omega
    obtain ⟨pb,po,rfl⟩:∃ b o,pa = some ⟨b,o,none⟩:=⟨_,_,hp1.some hab⟩
    replace hdj:=hdj _ _ hb
    have hne:v≠[]:=fun h=>by rw [h] at hplen;exact hab hplen.symm
    have hvc:flat itE v≠[]:=fun h=>by rw [h] at hVl;simp at hVl;omega
    repeat' (refine ob ?_ ?_;(first | trivial | omega | (simp only [inR];omega) | exact ble (by rfl) | exact SlR.some ‹_› (by omega));(conv=>whnf))
    rw [cut_0 (x:=((0:Nat):Int)) (y:=(c:Int)) c rfl rfl (by omega),show ((c:Int).toNat - ((0:Nat):Int).toNat) = c by omega,show (((l.length:Int) + (pn:Int)).toNat - ((0:Nat):Int).toNat) = l.length + pn by omega,cut_n (x:=(i:Int) + (pn:Int)) (y:=(c:Int)) (i + pn) c (by omega) rfl (by omega)]
    refine CallH.ext ⟨.bool false,fun w hs hp=>ext118 G p (ca:=flat itE v) hpall.1 hvc hb hdj w hs (fun b o e=>hp p rfl b o e),W.mk ?_⟩
    (conv=>whnf)
    refine ForkP.mk (fun h=>by cases h) (fun _=>W.mk ?_)
    (conv=>whnf)
    repeat' (refine ob ?_ ?_;(first | trivial | omega | (simp only [inR];omega) | exact ble (by rfl) | exact SlR.some ‹_› (by omega));(conv=>whnf))
    rw [cut_n (x:=(i:Int)) (y:=(c:Int)) i c rfl rfl (by omega),cut_n (x:=(i:Int) + (pn:Int)) (y:=(c:Int)) (i + pn) c (by omega) rfl (by omega)]
    refine OblP.mk ⟨by omega,rfl⟩ (W.mk ?_)
    (conv=>whnf)
    have hmin2:min (((l.length + pn:Nat):Int).toNat - ((i:Nat):Int).toNat) (((l.length + pn:Nat):Int).toNat - ((i:Int) + (pn:Int)).toNat) = l.length - i:=by omega
    have hBd:(flat itE l).drop (i * 4) = flat itE (l.drop i):=(flat_drop itE l i hi).symm
    have hBe:flat itE (l.drop i) = ((flat itE l++rest).drop (ao (some (⟨b',0 + i * 4,none⟩:Addr)))).take ((l.length - i) * 4):=by
     rw [ao_some,Nat.zero_add,List.drop_append_of_le_length (by rw [flat_len,show itE.k = 4 from rfl];omega),hBd,List.take_append_of_le_length (by rw [hBl];omega),List.take_of_length_le (by rw [hBl];omega)]
    rw [hmin2]
    refine RdhP.mk ⟨flat itE (l.drop i),⟨by rw [hBl], .inr ⟨_,164,hb,hBe⟩⟩,fun _=>W.mk ?_⟩
    (conv=>whnf)
    refine OblP.mk (flat_one _ _) (W.mk ?_)
    (conv=>whnf)
    refine HpkP.mk ⟨_,164,hb,W.mk ?_⟩
    (conv=>whnf)
    rw [show ao (some (⟨b',0 + (i + pn) * 4,none⟩:Addr)) = i * 4 + pn * 4 by simp [Nat.add_mul],show ab (some (⟨b',0 + (i + pn) * 4,none⟩:Addr)) = b' from rfl]
    refine OblP.mk ⟨by simp [Nat.add_mul],by rw [hlen2];omega⟩ (W.mk ?_)
    generalize hC1:(flat itE l++rest).take (i * 4 + pn * 4)++flat itE (l.drop i)++(flat itE l++rest).drop (i * 4 + pn * 4 + (l.length - i) * 4) = C1
    have hC1l:C1.length = c * 4:=by rw [← hC1];simp only [List.length_append,List.length_take,List.length_drop,flat_len,hrl,show itE.k = 4 from rfl];omega
    rw [hC1] at hfinal
    (conv=>whnf)
    repeat' (refine ob ?_ ?_;(first | trivial | omega | (simp only [inR];omega) | exact ble (by rfl) | exact SlR.some ‹_› (by omega));(conv=>whnf))
    have hmin:min pn (((l.length + pn:Nat):Int).toNat - ((i:Nat):Int).toNat) = pn:=by omega
    rw [hmin,cut_n (x:=(i:Int)) (y:=(c:Int)) i c rfl rfl (by omega)]
    refine RdhP.g hpall.1 hfl (W.mk ?_)
    (conv=>whnf)
    refine OblP.mk hpall.2.2 (W.mk ?_)
    (conv=>whnf)
    refine HpkP.mk ⟨_,164,upd_same _ _ _,W.mk ?_⟩
    (conv=>whnf)
    rw [show ao (some (⟨b',0 + i * 4,none⟩:Addr)) = i * 4 by simp,show ab (some (⟨b',0 + i * 4,none⟩:Addr)) = b' from rfl,hfinal]
    refine OblP.mk ⟨by simp,by omega⟩ (W.mk ?_)
    (conv=>whnf)
    refine NmP.mk ⟨[],W.mk ?_⟩
    (conv=>whnf)
    refine FinHp.of rfl ⟨.inr ⟨b',c,rest.drop (pn * 4), ?_, ?_, ?_, ?_,hm⟩,KeepHp.set2 rfl⟩
    ·rw [insF_len l v hi,hplen];rfl
    ·rw [upd_same,insF,flat_app,flat_app]
    ·rw [insF_len l v hi,hplen,List.length_drop,hrl,show itE.k = 4 from rfl];omega
    ·rw [insF_len l v hi,hplen];omega
theorem ins110 (l v:List It) (i:Nat) (hi:i≤l.length) (hl9:l.length≤100000) (hv9:v.length≤100000) (lv pv:Value):Sound Tryz.prog 179 id (.hp (fun args p G=>args = [lv,I (i:Nat),pv]∧RowH itE 164 p lv l∧SlV itE G pv v) fun _ p w p' _=>RowH itE 164 p' w (insF l i v)∧KeepHp (fun k=>blkOf lv = some k) p p') :=
 Sound.hpImp (ins110d l v i hi hl9 hv9 lv pv) (fun args p G d h=>⟨d,h⟩) (fun args p v p' G h=>h) (fun args p v p' G G' hg h=>h)
end Go.Proofs.YtefnikpoimaiiaaGreat

namespace Go.Proofs.YtefnikpoimaiiaaGreat
open Go.Pal Go.RowKit
set_option maxRecDepth 100000
theorem KeepHp.keepT {F:Nat→Prop} {p p':Hp} (h:KeepHp F p p') (hf:∀ b cs t x,F b→p b = some (.cells cs t x)→t = 167∨t = 164∨t = 3):KeepT p p':=fun b cs t x a1 a2 a3 e=>by
 by_cases hb:F b
 ·rcases hf b cs t x hb e with h1 | h1 | h1
  ·exact (a1 h1).elim
  ·exact (a2 h1).elim
  ·exact (a3 h1).elim
 ·exact h b _ hb e
theorem RowH.typ {α:Type} {E:El α} {t:TypeId} {p:Hp} {v:Value} {l:List α} (h:RowH E t p v l) {b:Nat} {cs:Array Value} {t':TypeId} {x:Nat × Nat} (hb:blkOf v = some b) (e:p b = some (.cells cs t' x)):t' = t:=by
 rcases h with ⟨rfl,_⟩ | ⟨b',c,rest,rfl,h,_⟩
 ·cases hb
 ·cases hb
  rw [h] at e;cases e;rfl
theorem insert92 (d:Dr) (S:Sh) (hs:S.small) (v:List It) (hv9:v.length≤1000) (i:Nat) (hi:i≤S.its.length) (b:Nat) (pv:Value):Sound Tryz.prog 120 id (.hp (fun args p G=>args = [ptr b,I (i:Nat),pv]∧ShH p G b d S∧SlV itE G pv v) fun _ p w p' G=>w = .tuple #[]∧ShH p' G b d { S with its:=insF S.its i v }∧KeepT p p'):=by
 refine comp92.hp (Tab.nil _) (fun args p G h=>?_) (fun args p v p' G G' hg h=>⟨h.1,h.2.1.grow hg,h.2.2⟩) (fun args p G h=>?_)
 ·obtain ⟨rfl,_⟩:=h;simp
 ·obtain ⟨rfl,⟨w,k,iv,lv,h1,h2,h3,h4,h5⟩,hpv⟩:=h
  obtain ⟨pa,pn,pc,rfl,_⟩:=id hpv
  have hsh:∃ a n c,iv = .slice a n c:=by rcases h4 with ⟨rfl,_⟩ | ⟨b',c',rest,rfl,_⟩<;>exact ⟨_,_,_,rfl⟩
  obtain ⟨ia,im,ic,rfl⟩:=hsh
  (conv=>whnf)
  refine RdhP.h (ds:=[w,k, .slice ia im ic,lv,I S.ch]) h1 rfl (W.mk ?_)
  (conv=>whnf)
  refine CallH.mk _ (ins110 S.its v i hi (by have:=hs.1;omega) (by omega) (.slice ia im ic) (.slice pa pn pc)) body110 (W.mk ?_)
  (conv=>whnf)
  refine HpcP.mk ⟨rfl,h4,hpv⟩ (fun u p1 G1 hg1 hq=>W.mk ?_)
  obtain ⟨hr,hk⟩:=hq
  have hne:¬ blkOf (.slice ia im ic) = some b:=fun h=>absurd (h4.typ h h1) (by decide)
  have h1':=hk _ _ hne h1
  have h5':RowH intE 3 p1 lv S.live:=h5.mono fun k o e1 e2=>hk k o (fun h=>by
   rcases h5 with ⟨rfl,_⟩ | ⟨b',c',rest,rfl,hb',_⟩
   ·cases e1
   ·cases e1
    exact absurd (h4.typ h hb') (by decide)) e2
  have hush:∃ a n c,u = .slice a n c:=by rcases hr with ⟨rfl,_⟩ | ⟨b',c',rest,rfl,_⟩<;>exact ⟨_,_,_,rfl⟩
  obtain ⟨ua,um,uc,rfl⟩:=hush
  dsimp only
  (conv=>whnf)
  refine HpkP.mk ⟨[w,k, .slice ia im ic,lv,I S.ch],167,h1',W.mk ?_⟩
  (conv=>whnf)
  (refine ob ?_ ?_;(first | trivial | omega | (simp only [inR];omega) | exact ble (by rfl) | exact SlR.some ‹_› (by omega));(conv=>whnf))
  refine NmP.mk ⟨[],W.mk ?_⟩
  (conv=>whnf)
  have hkt:KeepT p p1:=hk.keepT fun b' cs t x hb' e=>.inr (.inl (h4.typ hb' e))
  have hub:∀ k,blkOf (.slice ua um uc) = some k→k≠b:=fun k hk he=>by
   subst he
   exact absurd (hr.typ hk h1') (by decide)
  refine FinHp.of rfl ⟨rfl,⟨w,k, .slice ua um uc,lv,upd_same _ _ _,h2.grow hg1,h3.grow hg1,hr.mono fun k o e1 e2=>?_,h5'.mono fun k o e1 e2=>?_⟩,hkt.trans (KeepT.set h1' fun _ _ _ e=>by cases e;exact .inl rfl)⟩
  ·rw [upd_other _ _ (hub k e1)];exact e2
  ·rw [upd_other _ _ (fun he=>?_)]
   ·exact e2
   ·subst he
    exact absurd (h5'.typ e1 h1') (by decide)
def outF (n:Int) (x:It):Bool:=x.m != n || x.g == 0
theorem out84 (l:List It) (n:Int) (b0:Nat):Judge Tryz.prog (.func (.func 181) #[] #[ptr b0]) (fun w=>.agg (itE.f w).toArray) l (fun _ _ G=>CellsAt G b0 0 [I n]) (fun _=>False) (fun i=>outF n (l.getD i default)) true:=by
 refine ⟨fun i hi _=>SoundFn.of body84 ?_,fun i p p' G _ h=>h,fun i p G G' hg h=>h.grow hg,fun _ _ _ _ _ h=>h.elim⟩
 refine comp84.hp (Tab.nil _) (fun args p G h=>?_) (fun args p v p' G G' hg h=>⟨h.1,h.2.1.grow hg,h.2.2⟩) (fun args p G h=>?_)
 ·obtain ⟨rfl,_⟩:=h;simp
 ·obtain ⟨rfl,hc⟩:=h
  have hg:l.getD i default = l[i]:=by simp [hi]
  rw [hg]
  generalize l[i] = x
  (conv=>whnf)
  refine RdhP.g hc rfl (W.mk ?_)
  (conv=>whnf)
  refine IteP.mk (fun h1=>W.mk ?_) (fun h1=>W.mk ?_)<;>(conv=>whnf)
  ·refine IteP.mk (fun h2=>W.mk ?_) (fun h2=>W.mk ?_)<;>(conv=>whnf)<;>refine NmP.mk ⟨[],W.mk ?_⟩<;>(conv=>whnf)<;>refine FinHp.of rfl ⟨congrArg Value.bool ?_,hc,KeepHp.refl⟩<;>simp [outF, *]
  ·refine NmP.mk ⟨[],W.mk ?_⟩
   (conv=>whnf)
   refine FinHp.of rfl ⟨congrArg Value.bool ?_,hc,KeepHp.refl⟩
   simp [outF, *]
def outR:GRel (List It × Int):=fun args G x=>∃ v b0,args = [v, .func (.func 181) #[] #[ptr b0]]∧SlV itE G v x.1∧CellsAt G b0 0 [I x.2]
theorem outR_ok:GOk outR:=⟨fun args G x y ⟨v,b,h1,h2,h3⟩ ⟨v',b',h1',h2',h3'⟩=>by
  rw [h1] at h1'
  cases h1'
  have:=h3.eq h3' rfl
  simp only [List.cons.injEq,Value.int.injEq,true_and,and_true] at this
  exact Prod.ext (h2.uniq h2') this,fun args G G' x hg ⟨v,b,h1,h2,h3⟩=>⟨v,b,h1,h2.grow hg,h3.grow hg⟩⟩
theorem all83o:Sound Tryz.prog 180 id (gsca outR fun x v=>v = .bool (x.1.all (outF x.2))):=by
 refine Sound.scaG fun x=>?_
 refine fun args G Wd hsub ⟨v,b0,h1,h2,h3⟩=>?_
 refine (Sound.hpSca0 (all83 (out84 x.1 x.2 b0)) args G Wd hsub ⟨v,h1, .inl h2,h3⟩).mono ?_
 rintro e W' ⟨v,rfl,⟨p',G',hq,_⟩,h⟩
 refine ⟨v,rfl, ?_,h⟩
 rcases hq with ⟨rfl,hf,_⟩ | ⟨rfl,i,hi,hb,_⟩
 ·rw [all_t hf]
 ·rw [all_f hi hb]
theorem ScaP.go {α:Type} {R:GRel α} (ok:GOk R) {q:α→Value→Prop} {args:List Value} {p G:Hp} {A:Value→Prop} {x:α} (hx:∀ G1,Over p G G1→R args G1 x) (h:∀ v,q x v→W (A v)):ScaP (∀ G1,Over p G G1→∃ x,R args G1 x) (fun v=>∃ G1,Over p G G1∧∃ x,R args G1 x∧q x v) A :=
 ⟨fun G1 ho=>⟨x,hx G1 ho⟩,fun v ⟨G1,ho,y,hy,hq⟩=>h v ((ok.uniq _ _ _ _ hy (hx G1 ho)) ▸ hq)⟩
theorem undoable57 (b:Nat) (d:Dr) (S:Sh) (hs:S.small) (n:Int):Sound Tryz.prog 121 id (.hp (fun args p G=>args = [ptr b,I n]∧ShH p G b d S) fun _ p v p' G=>v = .bool (undoableF S n)∧Keep p p'):=by
 refine comp57.hp (Tab.cons 41 _ has82 body82 (Tab.cons 180 _ all83o body83 (Tab.nil _))) (fun args p G h=>?_) (fun args p v p' G G' hg h=>h) (fun args p G h=>?_)
 ·obtain ⟨rfl,_⟩:=h;simp
 ·obtain ⟨rfl,w,k,iv,lv,h1,h2,h3,h4,h5⟩:=h
  have hsh:∃ a n c,iv = .slice a n c:=by rcases h4 with ⟨rfl,_⟩ | ⟨b',c',rest,rfl,_⟩<;>exact ⟨_,_,_,rfl⟩
  obtain ⟨ia,im,ic,rfl⟩:=hsh
  have hsh:∃ a n c,lv = .slice a n c:=by rcases h5 with ⟨rfl,_⟩ | ⟨b',c',rest,rfl,_⟩<;>exact ⟨_,_,_,rfl⟩
  obtain ⟨la,lm,lc,rfl⟩:=hsh
  (conv=>whnf)
  refine NewP.mk (fun b0 hb0=>W.mk ?_)
  (conv=>whnf)
  obtain ⟨q,hq⟩:∃ q,q = upd p b0 (some (.cells #[I n] 3 (0,0))):=⟨_,rfl⟩
  have hk:∀ b o,p b = some o→q b = some o:=fun b o e=>by rw [hq,upd_other _ _ (fun h=>by rw [h,hb0] at e;cases e)];exact e
  have hq0:q b0 = some (.cells #[I n] 3 (0,0)):=by rw [hq,upd_same]
  rw [← hq]
  clear hq
  refine RdhP.h (ds:=[w,k, .slice ia im ic, .slice la lm lc,I S.ch]) (hk _ _ h1) rfl (W.mk ?_)
  (conv=>whnf)
  refine RdhP.h (ds:=[I n]) hq0 rfl (W.mk ?_)
  (conv=>whnf)
  refine ScaP.go (ok2 (slRd intE) intRd fun _ _=>True) (x:=(S.live,n)) (fun G1 ho=>⟨_,_,rfl,h5.slV (fun b o e=>ho.2.1 b o (hk b o e)) (by have:=hs.2.1;omega),rfl,trivial⟩) (fun v hv=>W.mk ?_)
  subst hv
  dsimp only
  (conv=>whnf)
  have fin:∀ {c:Bool},undoableF S n = c→(Value.bool c) = .bool (undoableF S n)∧Keep p q:=fun h=>⟨by rw [h],fun b o _ e=>hk b o e⟩
  refine ForkP.mk (fun e1=>W.mk ?_) (fun e1=>W.mk ?_)<;>(conv=>whnf)
  ·refine RdhP.h (ds:=[w,k, .slice ia im ic, .slice la lm lc,I S.ch]) (hk _ _ h1) rfl (W.mk ?_)
   (conv=>whnf)
   refine ScaP.go outR_ok (x:=(S.its,n)) (fun G1 ho=>⟨_,b0,rfl,h4.slV (fun b o e=>ho.2.1 b o (hk b o e)) (by have:=hs.1;omega),cellsAt_of (ho.2.1 _ _ hq0)⟩) (fun v hv=>W.mk ?_)
   subst hv
   dsimp only
   (conv=>whnf)
   refine ForkP.mk (fun e2=>W.mk ?_) (fun e2=>W.mk ?_)<;>(conv=>whnf)<;>refine NmP.mk ⟨[],W.mk ?_⟩<;>(conv=>whnf)<;>refine FinHp.of rfl (fin ?_)<;>rw [undoableF,e1]<;>exact e2
  ·refine NmP.mk ⟨[],W.mk ?_⟩
   (conv=>whnf)
   refine FinHp.of rfl (fin ?_)
   rw [undoableF,e1];rfl
end Go.Proofs.YtefnikpoimaiiaaGreat

namespace Go.Proofs.YtefnikpoimaiiaaGreat
open Go.Pal Go.RowKit
set_option maxRecDepth 100000
theorem RowH.sl {α:Type} {E:El α} {t:TypeId} {p:Hp} {v:Value} {l:List α} (h:RowH E t p v l):∃ a c,v = .slice a l.length c:=by
 rcases h with ⟨rfl,rfl⟩ | ⟨b',c',rest,rfl,_⟩<;>exact ⟨_,_,rfl⟩
theorem RowH.off {α:Type} {E:El α} {t:TypeId} {p:Hp} {v:Value} {l:List α} (h:RowH E t p v l) {b:Nat} {o:Option Obj} (hb:blkOf v≠some b):RowH E t (upd p b o) v l :=
 h.mono fun k o' e1 e2=>by rw [upd_other _ _ (fun he=>hb (by rw [he] at e1;exact e1))];exact e2
theorem ShV.store {p G:Hp} {b:Nat} {d:Dr} {w k iv lv iv' lv':Value} {c c':Int} {its:List It} {live:List Int} (h1:p b = some (.cells #[w,k,iv,lv,I c] 167 (0,0))) (h2:SlV woE G w d.ws) (h3:SlV intE G k d.ks) (h4:RowH itE 164 p iv' its) (h5:RowH intE 3 p lv' live) :
  ShV (upd p b (some (.cells #[w,k,iv',lv',I c'] 167 (0,0)))) G b d ⟨its,live,c'⟩ w k iv' lv'∧KeepT p (upd p b (some (.cells #[w,k,iv',lv',I c'] 167 (0,0)))) :=
 ⟨⟨upd_same _ _ _,h2,h3,h4.off fun h=>absurd (h4.typ h h1) (by decide),h5.off fun h=>absurd (h5.typ h h1) (by decide)⟩,KeepT.set h1 fun _ _ _ e=>by cases e;exact .inl rfl⟩
theorem ShV.item {p G:Hp} {b:Nat} {d:Dr} {w k iv lv:Value} {S:Sh} (h:ShV p G b d S w k iv lv) {i:Nat} (hi:i < S.its.length) :
  ∃ ib c rest,iv = .slice (some ⟨ib,0,none⟩) S.its.length c∧p ib = some (.cells (flat itE S.its++rest).toArray 164 (0,0))∧i * 4 + 4≤(flat itE S.its++rest).length ∧
   ∀ g,(flat itE S.its++rest).take (i * 4 + 3)++[I g]++(flat itE S.its++rest).drop (i * 4 + 3 + 1) = flat itE (S.its.set i { S.its[i] with g:=g })++rest ∧
    ShV (upd p ib (some (.cells (flat itE (S.its.set i { S.its[i] with g:=g })++rest).toArray 164 (0,0)))) G b d { S with its:=S.its.set i { S.its[i] with g:=g } } w k iv lv ∧
    KeepT p (upd p ib (some (.cells (flat itE (S.its.set i { S.its[i] with g:=g })++rest).toArray 164 (0,0)))):=by
 obtain ⟨h1,h2,h3,h4,h5⟩:=h
 have h4':=h4
 rcases h4 with ⟨rfl,h⟩ | ⟨ib,c,rest,rfl,hb,hr,hc,hm⟩
 ·rw [h] at hi;simp at hi
 ·refine ⟨ib,c,rest,rfl,hb,by rw [List.length_append,flat_len,show itE.k = 4 from rfl];omega,fun g=>⟨flat_set itE S.its rest [I g] (i:=i) (d:=3) (n:=1) (x:={ S.its[i] with g:=g }) hi (by decide) rfl,⟨?_,h2,h3, ?_, ?_⟩,KeepT.set hb fun _ _ _ e=>by cases e;exact .inr (.inl rfl)⟩⟩
  ·rw [upd_other _ _ (fun e=>by subst e;exact absurd (h4'.typ rfl h1) (by decide))];exact h1
  ·exact .inr ⟨ib,c,rest,by rw [List.length_set],upd_same _ _ _,by rw [List.length_set];exact hr,by rw [List.length_set];exact hc,hm⟩
  ·exact h5.off fun h=>absurd (h5.typ h hb) (by decide)
theorem tel94 (l:List It) (u:Int) (r1 r2 r3:Value) (bx ib:Nat) (hne:bx≠ib):Teller Tryz.prog itE 164 (.func (.func 123) #[] #[ptr bx]) (fun w=>.agg (itE.f w).toArray) l ib (fun _ p _=>p bx = some (.cells #[I u,r1,r2,r3] 133 (0,0))) (fun i=>(l.getD i default).m == u):=by
 refine ⟨fun i hi=>SoundFn.of body94 ?_,fun i p p' G hp h=>hp _ _ h,fun i p G G' _ h=>h,fun i p G cur _ rest h _ _ _ _=>by rw [upd_other _ _ hne];exact h⟩
 refine comp94.hp (Tab.nil _) (fun args p G h=>?_) (fun args p v p' G G' hg h=>h) (fun args p G h=>?_)
 ·obtain ⟨rfl,_⟩:=h;simp
 ·obtain ⟨rfl,hc⟩:=h
  have hg:l.getD i default = l[i]:=by simp [hi]
  rw [hg]
  generalize l[i] = x
  (conv=>whnf)
  refine RdhP.h (ds:=[I u,r1,r2,r3]) hc rfl (W.mk ?_)
  (conv=>whnf)
  refine IteP.mk (fun h1=>W.mk ?_) (fun h1=>W.mk ?_)<;>(conv=>whnf)<;>refine NmP.mk ⟨[],W.mk ?_⟩<;>(conv=>whnf)<;>refine FinHp.of rfl ⟨congrArg Value.bool ?_,hc,KeepHp.refl⟩<;>simp [*]
theorem tel95 (l:List Int) (u:Int) (r1 r2 r3:Value) (bx lb:Nat) (hne:bx≠lb):Teller Tryz.prog intE 3 (.func (.func 125) #[] #[ptr bx]) (fun n=>I n) l lb (fun _ p _=>p bx = some (.cells #[I u,r1,r2,r3] 133 (0,0))) (fun i=>l.getD i 0 == u):=by
 refine ⟨fun i hi=>SoundFn.of body95 ?_,fun i p p' G hp h=>hp _ _ h,fun i p G G' _ h=>h,fun i p G cur _ rest h _ _ _ _=>by rw [upd_other _ _ hne];exact h⟩
 refine comp95.hp (Tab.nil _) (fun args p G h=>?_) (fun args p v p' G G' hg h=>h) (fun args p G h=>?_)
 ·obtain ⟨rfl,_⟩:=h;simp
 ·obtain ⟨rfl,hc⟩:=h
  have hg:l.getD i 0 = l[i]:=by simp [hi]
  rw [hg]
  generalize l[i] = x
  (conv=>whnf)
  refine RdhP.h (ds:=[I u,r1,r2,r3]) hc rfl (W.mk ?_)
  (conv=>whnf)
  refine IteP.mk (fun h1=>W.mk ?_) (fun h1=>W.mk ?_)<;>(conv=>whnf)<;>refine NmP.mk ⟨[],W.mk ?_⟩<;>(conv=>whnf)<;>refine FinHp.of rfl ⟨congrArg Value.bool ?_,hc,KeepHp.refl⟩<;>simp [*]
theorem map_step {α:Type} (f:α→α) (L:List α) {i:Nat} (h:i < L.length):((L.take i).map f++L.drop i).set i (f L[i]) = (L.take (i + 1)).map f++L.drop (i + 1):=by
 have hl:((L.take i).map f).length = i:=by simp;omega
 rw [List.drop_eq_getElem_cons h,List.set_append_right _ _ (by omega),hl,Nat.sub_self,List.set_cons_zero,List.take_add_one,List.getElem?_eq_getElem h]
 simp only [List.map_append,List.map_cons,List.map_nil,List.append_assoc,List.cons_append,List.nil_append,Option.toList_some]
theorem map_same {α:Type} (f:α→α) (L:List α) {i:Nat} (h:i < L.length) (hf:f L[i] = L[i]):(L.take i).map f++L.drop i = (L.take (i + 1)).map f++L.drop (i + 1):=by
 rw [List.drop_eq_getElem_cons h,List.take_add_one,List.getElem?_eq_getElem h]
 simp only [List.map_append,List.map_cons,List.map_nil,List.append_assoc,List.cons_append,List.nil_append,Option.toList_some,hf]
def SpC (G:Hp) (cs:List Value) (x:Sp):Prop:=∃ pv,cs = [I x.u,I x.a,I x.c,pv]∧SlV strE G pv x.put
theorem undo69 (b:Nat) (d:Dr) (S S':Sh) (hs:S.small) (x:Sp) (hS:undoF S x.u = some S'):Sound Tryz.prog 88 id (.hp (fun args p G=>∃ cs,args = [ptr b, .agg cs.toArray]∧SpC G cs x∧ShH p G b d S) fun _ p v p' G=>v = .tuple #[]∧ShH p' G b d S'∧KeepT p p'):=by
 refine comp69.hp (Tab.nil _) (fun args p G h=>?_) (fun args p v p' G G' hg h=>⟨h.1,h.2.1.grow hg,h.2.2⟩) (fun args p G h=>?_)
 ·obtain ⟨cs,rfl,_⟩:=h;simp
 ·obtain ⟨_,rfl,⟨pv,rfl,hp⟩,hsh⟩:=h
  have hun:undoableF S x.u = true∧S' = ⟨(S.its.filter fun y=>y.m != x.u).map (backF x.u),S.live.filter (· != x.u),S.ch⟩:=by
   unfold undoF at hS
   split at hS
   ·exact ⟨‹_›,(Option.some.inj hS).symm⟩
   ·cases hS
  obtain ⟨hun,rfl⟩:=hun
  obtain ⟨pa,pn,pc,rfl,_⟩:=id hp
  obtain ⟨u,xa,xc,xp⟩:=x
  dsimp only at hun hp
  (conv=>whnf)
  refine CallH.mk _ (undoable57 b d S hs u) body57 (W.mk ?_)
  (conv=>whnf)
  refine HpcP.mk ⟨rfl,hsh⟩ (fun v p1 G1 hg1 hq=>W.mk ?_)
  obtain ⟨rfl,hk1⟩:=hq
  rw [hun]
  (conv=>whnf)
  refine ForkP.mk (fun _=>W.mk ?_) (fun h=>by cases h)
  (conv=>whnf)
  refine CallH.mk _ ask90 body90 (W.mk ?_)
  (conv=>whnf)
  refine HpcP.mk rfl (fun v p2 G2 hg2 hq=>W.mk ?_)
  obtain ⟨rfl,rfl⟩:=hq
  (conv=>whnf)
  have hsh1:ShH p2 G2 b d S:=by
   obtain ⟨w,k,iv,lv,h1,h2,h3,h4,h5⟩:=hsh
   exact ⟨w,k,iv,lv,hk1 _ _ id h1,h2.grow (hg1.trans hg2),h3.grow (hg1.trans hg2),h4.mono fun k o _ e=>hk1 _ _ id e,h5.mono fun k o _ e=>hk1 _ _ id e⟩
  obtain ⟨w,k,iv,lv,h1,h2,h3,h4,h5⟩:=hsh1
  obtain ⟨ia,ic,rfl⟩:=h4.sl
  refine RdhP.h (ds:=[w,k, .slice ia S.its.length ic,lv,I S.ch]) h1 rfl (W.mk ?_)
  (conv=>whnf)
  refine NewP.mk (fun bx hbx=>W.mk ?_)
  obtain ⟨q,hq⟩:∃ q,q = upd p2 bx (some (.cells #[I u,I xa,I xc, .slice pa pn pc] 133 (0,0))):=⟨_,rfl⟩
  have hk:∀ b o,p2 b = some o→q b = some o:=fun b o e=>by rw [hq,upd_other _ _ (fun h=>by rw [h,hbx] at e;cases e)];exact e
  have hqx:q bx = some (.cells #[I u,I xa,I xc, .slice pa pn pc] 133 (0,0)):=by rw [hq,upd_same]
  have hkt:KeepT p q:=fun b cs t x _ _ _ e=>hk _ _ (hk1 _ _ id e)
  replace h1:=hk _ _ h1
  replace h4:RowH itE 164 q _ S.its:=h4.mono fun k o _ e=>hk k o e
  replace h5:RowH intE 3 q lv S.live:=h5.mono fun k o _ e=>hk k o e
  (conv=>whnf)
  rw [← hq]
  clear hq
  obtain ⟨ib,hib,hne⟩:∃ ib,(∀ k,blkOf (.slice ia S.its.length ic) = some k→k = ib)∧bx≠ib:=by
   cases hb:blkOf (.slice ia S.its.length ic) with
   | none=>exact ⟨bx + 1,(fun k h=>by cases h),by omega⟩
   | some ib=>exact ⟨ib,(fun k h=>by cases h;rfl),fun h=>by subst h;exact absurd (h4.typ hb hqx) (by decide)⟩
  refine CallH.mk _ (del93 (by have:=hs.1;omega) (.slice ia S.its.length ic) (tel94 S.its u (I xa) (I xc) (.slice pa pn pc) bx ib hne)) body93 (W.mk ?_)
  (conv=>whnf)
  refine HpcP.mk ⟨rfl,h4,hib,hqx⟩ (fun v q3 G3 hg3 hq3=>W.mk ?_)
  obtain ⟨hr3,hib3,hx3,hk3⟩:=hq3
  rw [delF_filter (fun y:It=>y.m == u) _ default S.its 0 (fun j _=>by rw [Nat.zero_add])] at hr3
  obtain ⟨va,vc,rfl⟩:=hr3.sl
  have hbib:¬ blkOf (.slice ia S.its.length ic) = some b:=fun h=>absurd (h4.typ h h1) (by decide)
  have h1':=hk3 _ _ hbib h1
  dsimp only
  (conv=>whnf)
  refine HpkP.mk ⟨[w,k, .slice ia S.its.length ic,lv,I S.ch],167,h1',W.mk ?_⟩
  (conv=>whnf)
  (refine ob ?_ ?_;(first | trivial | omega | (simp only [inR];omega) | exact ble (by rfl) | exact SlR.some ‹_› (by omega));(conv=>whnf))
  have h5':RowH intE 3 q3 lv S.live:=h5.mono fun k o e1 e2=>hk3 k o (fun h=>by
   rcases h5 with ⟨rfl,_⟩ | ⟨b',c',rest,rfl,hb',_⟩
   ·cases e1
   ·cases e1
    exact absurd (h4.typ h hb') (by decide)) e2
  have hst:=ShV.store (c':=S.ch) h1' (h2.grow hg3) (h3.grow hg3) hr3 h5'
  generalize hq4:upd q3 b (some (.cells (List.toArray _) 167 (0,0))) = q4
  replace hst:ShV q4 G3 b d ⟨S.its.filter fun y=>!(y.m == u),S.live,S.ch⟩ w k (.slice va (S.its.filter fun y=>!(y.m == u)).length vc) lv∧KeepT q3 q4:=by rw [← hq4];exact hst
  obtain ⟨hsv,hkt4⟩:=hst
  have hx4:q4 bx = some (.cells #[I u,I xa,I xc, .slice pa pn pc] 133 (0,0)):=hkt4 _ _ _ _ (by decide) (by decide) (by decide) hx3
  have hkt':KeepT p q4:=fun k cs t x t1 t2 t3 e=>hkt4 _ _ _ _ t1 t2 t3 (hk3 _ _ (fun h=>t2 (h4.typ h (hkt _ _ _ _ t1 t2 t3 e))) (hkt _ _ _ _ t1 t2 t3 e))
  generalize hL:(S.its.filter fun y=>!(y.m == u)) = L at hsv hr3
  have hLl:L.length≤10000:=by rw [← hL];exact Nat.le_trans (List.length_filter_le _ _) hs.1
  refine RdhP.h (ds:=[w,k, .slice va L.length vc,lv,I S.ch]) hsv.1 rfl (W.mk ?_)
  (conv=>whnf)
  refine LoopP.of { α:=Nat × Hp × List It,fr:=fun x=>[(0, .v (ptr b)),(3, .v (ptr bx)),(23, .v (I L.length)),(24, .v (I x.1))],H:=fun x=>[(0, .heap x.2.1)],ok:=fun x G=>x.1≤L.length∧x.2.2 = (L.take x.1).map (backF u)++L.drop x.1∧ShV x.2.1 G b d ⟨x.2.2,S.live,S.ch⟩ w k (.slice va L.length vc) lv∧x.2.1 bx = some (.cells #[I u,I xa,I xc, .slice pa pn pc] 133 (0,0))∧KeepT p x.2.1,m:=fun x=>L.length - x.1 }
   (0,q4,L) (HeadP.of [] ⟨rfl,rfl,rfl,rfl,trivial⟩ ⟨rfl,trivial⟩) ⟨Nat.zero_le _,by simp,hsv,hx4,hkt'⟩ (fun _=>⟨rfl,rfl⟩) (fun x G5 hg5 hx=>W.mk ?_)
  obtain ⟨i,r,cur⟩:=x
  obtain ⟨hi,hcur,hsv5,hx5,hkt5⟩:=hx
  dsimp only at hi hcur hsv5 hx5 hkt5
  dsimp only
  (conv=>whnf)
  refine IteP.mk (fun hlt=>W.mk ?_) (fun hge=>W.mk ?_)<;>(conv=>whnf)
  ·have hiL:i < L.length:=by omega
   have hcl:cur.length = L.length:=by rw [hcur];simp;omega
   have hic:i < cur.length:=by omega
   have hci:cur[i] = L[i]:=by
    have:cur[i]? = L[i]?:=by
     rw [hcur,List.getElem?_append_right (by simp;omega)]
     simp [Nat.min_eq_left hi]
    rw [List.getElem?_eq_getElem hic,List.getElem?_eq_getElem hiL] at this
    exact Option.some.inj this
   obtain ⟨ib2,c2,rest2,e2,hb2,hfit2,hset2⟩:=ShV.item (S:=⟨cur,S.live,S.ch⟩) hsv5 hic
   dsimp only at e2 hb2 hfit2 hset2
   have hrd2:[I cur[i].g] = ((flat itE cur++rest2).drop (0 + i * 4 + 3)).take 1:=by
    rw [Nat.zero_add]
    exact (flat_sub itE cur rest2 (i:=i) (d:=3) (n:=1) hic (by decide)).symm
   simp only [Value.slice.injEq] at e2
   obtain ⟨rfl,_,rfl⟩:=e2
   repeat' (refine ob ?_ ?_;(first | trivial | omega | (simp only [inR];omega) | exact ble (by rfl) | exact SlR.some ‹_› (by omega));(conv=>whnf))
   refine RdhP.h (ds:=[w,k, .slice (some ⟨ib2,0,none⟩) L.length vc,lv,I S.ch]) hsv5.1 rfl (W.mk ?_)
   (conv=>whnf)
   refine OblP.mk (by omega) (W.mk ?_)
   (conv=>whnf)
   refine OblP.mk rfl (W.mk ?_)
   (conv=>whnf)
   refine RdhP.mk ⟨[I cur[i].g],⟨rfl, .inr ⟨_,164,hb2,hrd2⟩⟩,fun _=>W.mk ?_⟩
   (conv=>whnf)
   refine RdhP.h (ds:=[I u,I xa,I xc, .slice pa pn pc]) hx5 rfl (W.mk ?_)
   (conv=>whnf)
   refine IteP.mk (fun hgu=>W.mk ?_) (fun hgu=>W.mk ?_)<;>(conv=>whnf)
   ·obtain ⟨hcells,hsv6,hkt6⟩:=hset2 0
    have hbf:({ cur[i] with g:=0 }:It) = backF u L[i]:=by rw [← hci,backF,if_pos hgu]
    refine RdhP.h (ds:=[w,k, .slice (some ⟨ib2,0,none⟩) L.length vc,lv,I S.ch]) hsv5.1 rfl (W.mk ?_)
    (conv=>whnf)
    refine OblP.mk (by omega) (W.mk ?_)
    (conv=>whnf)
    refine OblP.mk rfl (W.mk ?_)
    (conv=>whnf)
    refine HpkP.mk ⟨_,164,hb2,W.mk ?_⟩
    (conv=>whnf)
    rw [show ao (some (⟨ib2,0,none⟩:Addr)) + (i:Int).toNat * 4 + 3 = i * 4 + 3 by simp,hcells]
    refine OblP.mk (by omega) (W.mk ?_)
    (conv=>whnf)
    repeat' (refine ob ?_ ?_;(first | trivial | omega | (simp only [inR];omega) | exact ble (by rfl) | exact SlR.some ‹_› (by omega));(conv=>whnf))
    refine RoundP.of (i + 1,upd r ib2 (some (.cells (flat itE (cur.set i { cur[i] with g:=0 })++rest2).toArray 164 (0,0))),cur.set i { cur[i] with g:=0 }) (HeadP.of [] ⟨rfl,rfl,rfl,rfl,trivial⟩ ⟨rfl,trivial⟩) ⟨hiL,by show cur.set i _ = _;rw [hbf,hcur];exact map_step _ _ hiL,hsv6,hkt6 _ _ _ _ (by decide) (by decide) (by decide) hx5,hkt5.trans hkt6⟩ (by show L.length - (i + 1) < L.length - i;omega)
   ·repeat' (refine ob ?_ ?_;(first | trivial | omega | (simp only [inR];omega) | exact ble (by rfl) | exact SlR.some ‹_› (by omega));(conv=>whnf))
    have hbf:backF u L[i] = L[i]:=by rw [backF,if_neg (by rw [← hci];exact hgu)]
    refine RoundP.of (i + 1,r,cur) (HeadP.of [] ⟨rfl,rfl,rfl,rfl,trivial⟩ ⟨rfl,trivial⟩) ⟨hiL,by rw [hcur];exact map_same _ _ hiL hbf,hsv5,hx5,hkt5⟩ (by show L.length - (i + 1) < L.length - i;omega)
  ·have:i = L.length:=by omega
   subst this
   rw [List.take_length,List.drop_length,List.append_nil] at hcur
   obtain ⟨h1r,h2r,h3r,h4r,h5r⟩:=hsv5
   dsimp only at h5r h4r
   obtain ⟨la,lc,rfl⟩:=h5r.sl
   refine RdhP.h (ds:=[w,k, .slice va L.length vc, .slice la S.live.length lc,I S.ch]) h1r rfl (W.mk ?_)
   (conv=>whnf)
   obtain ⟨lb,hlb,hne2⟩:∃ lb,(∀ k,blkOf (.slice la S.live.length lc) = some k→k = lb)∧bx≠lb:=by
    cases hb:blkOf (.slice la S.live.length lc) with
    | none=>exact ⟨bx + 1,(fun k h=>by cases h),by omega⟩
    | some lb=>exact ⟨lb,(fun k h=>by cases h;rfl),fun h=>by subst h;exact absurd (h5r.typ hb hx5) (by decide)⟩
   refine CallH.mk _ (del55 (by have:=hs.2.1;omega) (.slice la S.live.length lc) (tel95 S.live u (I xa) (I xc) (.slice pa pn pc) bx lb hne2)) body55 (W.mk ?_)
   (conv=>whnf)
   refine HpcP.mk ⟨rfl,h5r,hlb,hx5⟩ (fun v r2 G6 hg6 hq6=>W.mk ?_)
   obtain ⟨hr6,hib6,hx6,hk6⟩:=hq6
   rw [delF_filter (fun y:Int=>y == u) _ 0 S.live 0 (fun j _=>by rw [Nat.zero_add])] at hr6
   obtain ⟨v2a,v2c,rfl⟩:=hr6.sl
   have h1r2:=hk6 _ _ (fun h=>absurd (h5r.typ h h1r) (by decide)) h1r
   have h4r2:RowH itE 164 r2 _ cur:=h4r.mono fun k o e1 e2=>hk6 k o (fun h=>by
    rcases h4r with ⟨e,_⟩ | ⟨b',c',rest,e,hb',_⟩
    ·rw [e] at e1;cases e1
    ·rw [e] at e1;cases e1
     exact absurd (h5r.typ h hb') (by decide)) e2
   dsimp only
   (conv=>whnf)
   refine HpkP.mk ⟨[w,k, .slice va L.length vc, .slice la S.live.length lc,I S.ch],167,h1r2,W.mk ?_⟩
   (conv=>whnf)
   (refine ob ?_ ?_;(first | trivial | omega | (simp only [inR];omega) | exact ble (by rfl) | exact SlR.some ‹_› (by omega));(conv=>whnf))
   refine NmP.mk ⟨[],W.mk ?_⟩
   (conv=>whnf)
   have hst2:=ShV.store (c':=S.ch) h1r2 (h2r.grow hg6) (h3r.grow hg6) h4r2 hr6
   have hkr:KeepT r r2:=hk6.keepT fun b' cs t x hb' e=>.inr (.inr (h5r.typ hb' e))
   refine FinHp.of (p:=upd r2 b (some (.cells #[w,k, .slice va L.length vc, .slice v2a (S.live.filter fun y=>!(y == u)).length v2c,I S.ch] 167 (0,0)))) rfl ⟨rfl,⟨w,k, .slice va L.length vc, .slice v2a (S.live.filter fun y=>!(y == u)).length v2c, ?_⟩,(hkt5.trans hkr).trans hst2.2⟩
   have e1:(⟨(S.its.filter fun y=>y.m != u).map (backF u),S.live.filter (· != u),S.ch⟩:Sh) = ⟨cur,S.live.filter fun y=>!(y == u),S.ch⟩:=by rw [hcur, ← hL];rfl
   show ShV _ _ _ _ (⟨(S.its.filter fun y=>y.m != u).map (backF u),S.live.filter (· != u),S.ch⟩:Sh) _ _ _ _
   rw [e1]
   exact hst2.1
theorem refuse69 (b:Nat) (d:Dr) (S:Sh) (hs:S.small) (x:Sp) (hS:undoF S x.u = none):PanF Tryz.prog 88 203 (fun args p G=>∃ cs,args = [ptr b, .agg cs.toArray]∧SpC G cs x∧ShH p G b d S) (fun _ p q=>KeepT p q):=by
 refine comp69.pan (Tab.nil _) (fun args p G h=>?_) rfl (fun args p G h=>?_)
 ·obtain ⟨cs,rfl,_⟩:=h;simp
 ·obtain ⟨_,rfl,⟨pv,rfl,hp⟩,hsh⟩:=h
  have hun:undoableF S x.u = false:=by
   unfold undoF at hS
   split at hS
   ·cases hS
   ·simpa using ‹¬ undoableF S x.u = true›
  obtain ⟨pa,pn,pc,rfl,_⟩:=id hp
  obtain ⟨u,xa,xc,xp⟩:=x
  dsimp only at hun hp
  (conv=>whnf)
  refine CallH.mk _ (undoable57 b d S hs u) body57 (W.mk ?_)
  (conv=>whnf)
  refine HpcP.mk ⟨rfl,hsh⟩ (fun v p1 G1 hg1 hq=>W.mk ?_)
  obtain ⟨rfl,hk1⟩:=hq
  rw [hun]
  (conv=>whnf)
  refine ForkP.mk (fun h=>by cases h) (fun _=>W.mk ?_)
  (conv=>whnf)
  exact CallH.pan ⟨203,_,_,_,_,rfl,rfl,refuse90,body90,rfl,fun q hq=>⟨q,rfl,by rw [hq];exact KeepT.of fun b o e=>hk1 _ _ id e⟩⟩
end Go.Proofs.YtefnikpoimaiiaaGreat
