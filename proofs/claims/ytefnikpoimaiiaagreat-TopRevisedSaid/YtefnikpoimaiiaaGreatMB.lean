/- More operations: max and min, slices cut, rows made, elements of arrays, function values. Calls; and every operation together. What is published: a row, the cells of a block; that it may be published at any time. One operation of a region in a symbolic state; the intermediate form of regions; a region in the order of the text. Operations that may come in any order: what an operation asks and what it brings about, told apart; what it looks at. -/
import Derived.Test.YtefnikpoimaiiaaGreatMA
import Derived.Laws.MakeOwn
import Derived.Laws.Slices
import Derived.Lib.MinMax
import Derived.Laws.IdiomStrings
import Derived.MapKept
import Derived.Laws.CopyRow
import Derived.TacticsIn
set_option linter.unusedSimpArgs false
set_option linter.unusedVariables false
namespace Go.Pal
open Go.RowKit

section
variable {P:Program} {o:Oper} {a:Act} {W:World} {rd:Option Nat} {nn:Nat} {Q:Exit→Act→World→Prop}
variable {w0:Root} {G0 Gr G:Hp} {M:Nat→Prop} {E:Nat→Value} {H Hv:Nat→Option OB} {hid:Nat} {K:SV→List (Nat × Option OB)→Hp→Prop} {fr:Nat→SV} {tab:FuncId→Option PSpec}

theorem SV.of_rel' (E:Nat→Value) (v:Value):(SV.of v).rel E v:=S1.of_rel E v
theorem SV.of_ment' (M:Nat→Prop) (v:Value):(SV.of v).ment M:=S1.of_ment M v
theorem SV.toVal_rel {H:Nat→Option OB} (hpub:∀ h ob v,H h = some ob→ob.name = some v→E h = v) {sv:SV} {v w:Value} (hr:sv.rel E w) (hv:sv.toVal H = some v):w = v:=by
 cases sv with
 | c x=>exact S1.toValH_rel hpub hr hv
 | agg cs =>
  simp only [SV.toVal] at hv
  split at hv
  ·rename_i us hus
   cases hv
   obtain ⟨ws,e,hr⟩:=hr
   rw [e,toValsH_rel hpub hr hus]
  ·cases hv

theorem op_mm (C:Ctx w0 G0 Gr G M E H Hv hid fr a W) {mx:Bool} {x y:Operand} {x' y':Opd} {t t':TypeId} (hx:compOpd x = some x') (hy:compOpd y = some y')
  (hop:o.op = .call { callee:=.builtin (if mx then .max else .min),args:=#[x,y],argTypes:=#[t,t'] }) (hd:(ev tab fr Hv hid (.mm mx x' y')).den P hid Gr G K):Goal P o a W rd nn Q w0 G0 M E H hid K:=by
 have rx:=opd_rel C.rfr hx
 have ry:=opd_rel C.rfr hy
 simp only [ev] at hd
 split at hd
 case h_2=>exact hd.elim
 rename_i k m k' n e1 e2
 rw [e1] at rx;rw [e2] at ry
 have rx:a.eval x = .int k m:=rx
 have ry:a.eval y = .int k' n:=ry
 cases mx with
 | true=>exact C.quiet (v:=.int k (max m n)) (by simp [hop]) (by simp [execOp,hop,resolve,invoke,builtin,rx,ry,Lib.run_max_ints]) hd rfl trivial
 | false=>exact C.quiet (v:=.int k (min m n)) (by simp [hop]) (by simp [execOp,hop,resolve,invoke,builtin,rx,ry,Lib.run_min_ints]) hd rfl trivial
theorem bnd_sound {x:Option Operand} {x':Option Opd} {d:Nat} {cont:Int→Res} (C:Ctx w0 G0 Gr G M E H Hv hid fr a W) (hx:compOpt x = some x') (hd:(bndR fr x' d cont).den P hid Gr G K) :
  ∃ i,(cont i).den P hid Gr G K∧((x = none∧i = (d:Int))∨∃ y k,x = some y∧a.eval y = .int k i):=by
 cases x with
 | none=>cases hx;exact ⟨d,hd, .inl ⟨rfl,rfl⟩⟩
 | some y =>
  simp only [compOpt,Option.map_eq_some_iff] at hx
  obtain ⟨y',hy,rfl⟩:=hx
  have ry:=opd_rel C.rfr hy
  simp only [bndR] at hd
  split at hd
  ·rename_i k i e
   rw [e] at ry
   exact ⟨i,hd, .inr ⟨y,k,rfl,ry⟩⟩
  ·exact hd.elim

theorem op_slc (C:Ctx w0 G0 Gr G M E H Hv hid fr a W) {t e:TypeId} {k:Nat} {x:Operand} {lo hi mx:Option Operand} {x':Opd} {lo' hi' mx':Option Opd} (hx:compOpd x = some x') (hlo:compOpt lo = some lo') (hhi:compOpt hi = some hi') (hmx:compOpt mx = some mx')
  (ht:P.underlying t = some (.slice e)) (hk:szT P e = some k) (htop:topOk hi' mx' = true) (hop:o.op = .slice t x lo hi mx) (hd:(ev tab fr Hv hid (.slc k x' lo' hi' mx')).den P hid Gr G K):Goal P o a W rd nn Q w0 G0 M E H hid K:=by
 have rx:=opd_rel C.rfr hx
 simp only [ev] at hd
 split at hd
 case h_2=>exact hd.elim
 rename_i ad n c ex
 have rx:a.eval x = .slice ad n c:=SV.toVal_rel (fun h ob v e e'=>C.sim.name (C.view h ob e) e') rx ex
 obtain ⟨l,hd,hl⟩:=bnd_sound C hlo hd
 obtain ⟨h,hd,hh⟩:=bnd_sound C hhi hd
 obtain ⟨m,hd,hm⟩:=bnd_sound C hmx hd
 obtain ⟨⟨b1,b2,b3,b4⟩,⟨hd⟩⟩:=hd
 have h2:=run_sizeOf' (W:=W) hk
 refine C.quiet (by simp [hop]) (v:=.slice (cutA ad l.toNat m.toNat k) (h.toNat - l.toNat) (m.toNat - l.toNat)) ?_ hd rfl trivial
 have bound:∀ (y:Operand) (q:IntKind) (i:Int) (d:Nat) (code:BoundsCode),a.eval y = .int q i→0≤i→i≤(d:Int)→(Instr.sliceBound (a.eval y) d code).run P W = .ok i.toNat W:=fun y q i d code e h0 h1=>by
  rw [e];simp [Instr.sliceBound,asIntOf,h0,h1]
 have em:(m.toNat:Int) = m:=Int.toNat_of_nonneg (by omega)
 have eh:(h.toNat:Int) = h:=Int.toNat_of_nonneg (by omega)
 have key:(Instr.sliceBounds true n c (lo.map a.eval) (hi.map a.eval) (mx.map a.eval)).run P W = .ok (l.toNat,h.toNat,m.toNat) W:=by
  unfold Instr.sliceBounds
  rcases hm with ⟨rfl,rfl⟩ | ⟨ym,km,rfl,eym⟩
  ·rcases hh with ⟨rfl,rfl⟩ | ⟨yh,kh,rfl,eyh⟩
   ·rcases hl with ⟨rfl,rfl⟩ | ⟨yl,kl,rfl,eyl⟩
    ·simp
    ·have e3:=bound yl kl l n .sliceB eyl b1 (by omega)
     simp [e3]
   ·have e2:=bound yh kh h c .sliceAcap eyh (by omega) (by omega)
    rcases hl with ⟨rfl,rfl⟩ | ⟨yl,kl,rfl,eyl⟩
    ·simp [e2]
    ·have e3:=bound yl kl l h.toNat .sliceB eyl b1 (by omega)
     simp [e2,e3]
  ·have e1:=bound ym km m c .slice3Acap eym (by omega) (by omega)
   rcases hh with ⟨rfl,rfl⟩ | ⟨yh,kh,rfl,eyh⟩
   ·cases hhi
    simp only [compOpt,Option.map_eq_some_iff] at hmx
    obtain ⟨_,_,rfl⟩:=hmx
    simp [topOk] at htop
   ·have e2:=bound yh kh h m.toNat .slice3B eyh (by omega) (by omega)
    rcases hl with ⟨rfl,rfl⟩ | ⟨yl,kl,rfl,eyl⟩
    ·simp [e1,e2]
    ·have e3:=bound yl kl l h.toNat .slice3C eyl b1 (by omega)
     simp [e1,e2,e3]
 simp [execOp,hop,Instr.sliceAt,run_underlying ht,Instr.slice,rx,key,h2,cutA]

theorem replicate_flatten_cells (zs:Array Value) (n:Nat) (hz:1≤zs.size):(madeCells zs (n * zs.size)).toList = (List.replicate n zs.toList).flatten:=by
 apply List.ext_getElem
 ·simp [madeCells,List.length_flatten]
 ·intro i h1 h2
  have hi:i < n * zs.size:=by simpa [madeCells] using h1
  simp only [madeCells,Array.getElem_toList,Array.getElem_map,Array.getElem_range]
  have hm:i % zs.size < zs.size:=Nat.mod_lt _ (by omega)
  rw [getElem!_pos zs (i % zs.size) hm]
  induction n generalizing i with
  | zero=>omega
  | succ n ih =>
   by_cases hlt:i < zs.size
   ·have:i % zs.size = i:=Nat.mod_eq_of_lt hlt
    simp only [this,List.replicate_succ,List.flatten_cons]
    rw [List.getElem_append_left (by simpa using hlt)]
    simp
   ·have hge:zs.size≤i:=by omega
    have hi':i - zs.size < n * zs.size:=by rw [Nat.succ_mul] at hi;omega
    have e:i % zs.size = (i - zs.size) % zs.size:=by
     conv=>lhs;rw [show i = (i - zs.size) + zs.size by omega,Nat.add_mod_right]
    simp only [List.replicate_succ,List.flatten_cons]
    rw [List.getElem_append_right (by simpa using hge)]
    simp only [Array.length_toList]
    have:=ih (i - zs.size) (by simpa [madeCells] using hi') (by simpa [List.length_flatten] using hi') hi' (Nat.mod_lt _ (by omega))
    rw [← this]
    congr 1

theorem op_mks (C:Ctx w0 G0 Gr G M E H Hv hid fr a W) {t e:TypeId} {zs:List Value} {by':Nat} {x:Operand} {x':Opd} (hx:compOpd x = some x') (ht:P.underlying t = some (.slice e)) (hz:zeroT P e = some zs) (hb:byT P e = some by') (hk:1≤zs.length) (hb1:1≤by')
  (hop:o.op = .makeSlice t x x) (hd:(ev tab fr Hv hid (.mks e zs.length by' zs x')).den P hid Gr G K):Goal P o a W rd nn Q w0 G0 M E H hid K:=by
 have rx:=opd_rel C.rfr hx
 obtain ⟨z,i,hi,hiz,hzs,hsz,h1,_⟩:=run_zero' (W:=W) hz
 have hby:i.bytes = by':=by unfold byT at hb;rw [hi] at hb;simpa using hb
 have hzz:z.cells.size = zs.length:=by rw [← hzs];simp
 simp only [ev] at hd
 split at hd
 case h_2=>exact hd.elim
 rename_i q m ex
 rw [ex] at rx
 have rx:a.eval x = .int q m:=rx
 obtain ⟨⟨h0,hbytes⟩,⟨hd⟩⟩:=hd
 have hm:m≤140737488355328:=by
  have:(1:Int) * m≤(by':Int) * m:=Int.mul_le_mul_of_nonneg_right (by omega) h0
  omega
 have hr:=run_make (P:=P) W t e i z ht hi hiz q q m m h0 (Int.le_refl _) (by rw [hby];omega) (by omega)
 have hcs:=replicate_flatten_cells z.cells m.toNat (by omega)
 rw [hzz] at hcs
 refine wp_of_run (by simp [hop]) (v:=.slice (some ⟨W.heap.size,0,none⟩) m.toNat m.toNat) (W':=W.alloc (.cells (madeCells z.cells (m.toNat * i.size)) e)) (by simp [execOp,hop,rx,hr]) ?_
 refine OpPost.new C.sim C.mH C.fresh ((Below.refl _ _).alloc (Nat.le_refl _) _) hd (u:=.slice (some ⟨W.heap.size,0,none⟩) m.toNat m.toNat) ⟨?_, ?_, ?_⟩ trivial rfl ?_ ?_ (.inr rfl)
 ·rw [upd_same]
  have hlen:(List.replicate m.toNat zs).flatten.length = m.toNat * zs.length:=by simp [List.length_flatten]
  refine ⟨hlen, .inr ⟨W.heap.size,m.toNat,_,rfl,Nat.zero_le _,heap_alloc_new W _,Nat.le_refl _,by unfold maxLen;omega, ?_, ?_⟩⟩
  ·rw [size_madeCells,hsz]
  ·rw [← hsz,hcs,hzs]
   exact List.take_of_length_le (by rw [hlen];exact Nat.le_refl _)
 ·intro v hv
  obtain ⟨l,hl,hvl⟩:=List.mem_flatten.1 hv
  rw [List.mem_replicate] at hl
  exact h1 v (hl.2 ▸ hvl)
 ·intro b hb;rw [upd_same] at hb;simp only [blkOf,Option.some.injEq] at hb;subst hb;exact .inl C.sim.below.size
 ·intro b hb;simp [OB.has,blkOf] at hb;omega
 ·exact ⟨by rw [upd_same],_,_,upd_same _ _ _⟩

theorem op_aaddr (C:Ctx w0 G0 Gr G M E H Hv hid fr a W) {t e:TypeId} {n k:Nat} {x i:Operand} {x' i':Opd} (hx:compOpd x = some x') (hi:compOpd i = some i') (ht:P.underlying t = some (.array n e)) (hk:szT P e = some k) (hk1:1≤k)
  (hop:o.op = .indexAddr t x i) (hd:(ev tab fr Hv hid (.aaddr k n x' i')).den P hid Gr G K):Goal P o a W rd nn Q w0 G0 M E H hid K:=by
 have rx:=opd_rel C.rfr hx
 have mx:=opd_ment C.mfr x'
 have ri:=opd_rel C.rfr hi
 have h2:=run_sizeOf' (W:=W) hk
 simp only [ev] at hd
 split at hd
 case h_2=>exact hd.elim
 rename_i q j ei
 rw [ei] at ri
 have ri:a.eval i = .int q j:=ri
 have run:∀ b off,a.eval x = .pointer (some ⟨b,off,none⟩)→0≤j∧j < (n:Int)→(execOp a.eval o).run P W = .ok (.value (.pointer (some ⟨b,off + j.toNat * k,none⟩))) W:=fun b off ex hj=>by
  simp [execOp,hop,ex,ri,Instr.indexAt,asIntOf,run_underlying ht,Instr.sureAddr,hj.1,hj.2,h2,Addr.add_lit]
 split at hd
 case h_4=>exact hd.elim
 ·rename_i h off ex
  rw [ex] at rx mx
  obtain ⟨b,e1,e2⟩:=rx
  exact C.quiet (by simp [hop]) (run b off e2 hd.h) hd.k.out ⟨b,e1,rfl⟩ mx
 ·rename_i h off ex
  rw [ex] at rx mx
  obtain ⟨b,e1,e2⟩:=rx
  exact C.quiet (by simp [hop]) (run b off e2 hd.h) hd.k.out ⟨b,e1,rfl⟩ mx
 ·rename_i b off ex
  rw [ex] at rx
  exact C.quiet (by simp [hop]) (run b off rx hd.h) hd.k.out rfl trivial

theorem op_mkf (C:Ctx w0 G0 Gr G M E H Hv hid fr a W) {f:FuncId} {first caps:Array Operand} {xs ys:List Opd} (hxs:compOpds first.toList = some xs) (hys:compOpds caps.toList = some ys)
  (hop:o.op = .makeFunc (.func f) first caps) (hd:(ev tab fr Hv hid (.mkf f xs ys)).den P hid Gr G K):Goal P o a W rd nn Q w0 G0 M E H hid K:=by
 simp only [ev] at hd
 split at hd
 case h_2=>exact hd.elim
 rename_i vs ws e1 e2
 have a1:=opds_rel C.rfr (fun h ob v e e'=>C.sim.name (C.view h ob e) e') hxs e1
 have a2:=opds_rel C.rfr (fun h ob v e e'=>C.sim.name (C.view h ob e) e') hys e2
 have b1:first.map a.eval = vs.toArray:=by rw [← a1];apply Array.ext';simp
 have b2:caps.map a.eval = ws.toArray:=by rw [← a2];apply Array.ext';simp
 exact C.quiet (v:=.func (.func f) vs.toArray ws.toArray) (by simp [hop]) (by simp [execOp,hop,Instr.makeFunc,b1,b2]) hd rfl trivial

theorem getObj_map' {b clock:Nat} {es:Array MapEntry} (hw:W.heap[b]? = some (.map es clock)):(getObj b).run P W = .ok (.map es clock) W:=by simp [getObj,Sem.run,hw]
theorem setObj_map' {b clock:Nat} {es:Array MapEntry} (o:Obj) (hw:W.heap[b]? = some (.map es clock)):(setObj b o).run P W = .ok () { W with heap:=W.heap.setIfInBounds b o }:=by simp [setObj,Sem.run,hw]
theorem op_mkm (C:Ctx w0 G0 Gr G M E H Hv hid fr a W) {t:TypeId} (hop:o.op = .makeMap t none) (hd:(ev tab fr Hv hid .mkm).den P hid Gr G K):Goal P o a W rd nn Q w0 G0 M E H hid K:=by
 refine wp_of_run (W':=W.alloc (.map #[] 0)) (v:=.map (some W.heap.size)) (by simp [hop]) (by simp [execOp,hop,Instr.makeMap]) ?_
 refine OpPost.new C.sim C.mH C.fresh ((Below.refl _ _).alloc (Nat.le_refl _) _) hd (u:=.map (some W.heap.size)) ?_ trivial rfl ?_ ?_ (.inr rfl)
 ·exact ⟨W.heap.size,by rw [upd_same], .inl C.sim.below.size,heap_alloc_new W _,trivial⟩
 ·intro b hb;simp [OB.has,blkOf] at hb;omega
 ·exact ⟨by rw [upd_same],_,upd_same _ _ _⟩

theorem op_lkp (C:Ctx w0 G0 Gr G M E H Hv hid fr a W) {t kt e:TypeId} {z:Value} {ok:Bool} {x key:Operand} {x' key':Opd} (hx:compOpd x = some x') (hk:compOpd key = some key') (ht:P.underlying t = some (.map kt e)) (hz:zeroV P e = some z)
  (hop:o.op = .lookup t x key ok) (hd:(ev tab fr Hv hid (.lkp kt z ok x' key')).den P hid Gr G K):Goal P o a W rd nn Q w0 G0 M E H hid K:=by
 have rx:=opd_rel C.rfr hx
 have rk:=opd_rel C.rfr hk
 have hzr:(zeroValue e).run P W = .ok z W:=by
  unfold zeroV at hz
  cases hi:P.info? e with
  | none=>rw [hi] at hz;cases hz
  | some i=>rw [hi] at hz;simp only at hz;simp [zeroValue,typeInfo,hi,hz]
 simp only [ev] at hd
 split at hd
 case h_2=>exact hd.elim
 rename_i kv ek
 have rk:a.eval key = kv:=SV.toVal_rel (fun h ob v e e'=>C.sim.name (C.view h ob e) e') rk ek
 split at hd
 case h_4=>exact hd.elim
 ·rename_i h ex
  rw [ex] at rx
  obtain ⟨e1,b,e2⟩:=rx
  split at hd
  case h_2=>exact hd.elim
  rename_i s es clock hH
  obtain ⟨b',e3,_,hw,_⟩:=C.sim.own _ _ (C.view _ _ hH)
  rw [e2] at e3;cases e3
  obtain ⟨r,hf,⟨hd⟩⟩:=hd
  refine C.quiet (by simp [hop]) (v:=lookV z ok es r) ?_ hd (SV.of_rel' E _) (SV.of_ment' M _)
  simp only [execOp,hop,rk,e1,e2]
  simp only [Sem.run_bind,Instr.lookup,run_underlying ht,Result.andThen,getObj_map' hw,Sem.run_pure,hf.ck,hf.find]
  unfold lookV
  cases hm:mapAt es r with
  | none=>cases ok<;>simp [hzr,Result.andThen]
  | some q=>cases ok<;>simp [Result.andThen]
 ·rename_i ex
  rw [ex] at rx
  have rx:a.eval x = .map none:=rx
  obtain ⟨r,hf,⟨hd⟩⟩:=hd
  refine C.quiet (by simp [hop]) (v:=lookV z ok #[] r) ?_ hd (SV.of_rel' E _) (SV.of_ment' M _)
  have hfind:∀ W,(Instr.findKey kt kv []).run P W = .ok (mapAt #[] r) W:=fun W=>by simpa using hf.find W
  simp only [execOp,hop,rk,rx]
  simp only [Sem.run_bind,Instr.lookup,run_underlying ht,Result.andThen,Sem.run_pure,hf.ck,hfind]
  unfold lookV
  cases hm:mapAt #[] r with
  | none=>cases ok<;>simp [hzr,Result.andThen]
  | some q=>cases ok<;>simp [Result.andThen]
 ·rename_i b ex
  rw [ex] at rx
  have rx:a.eval x = .map (some b):=rx
  split at hd
  case h_2 =>
   obtain ⟨es,clock,hG,⟨r,hf,⟨hd⟩⟩⟩:=hd
   have hw:=C.sim.sub _ _ (C.gr _ _ hG)
   refine C.quiet (by simp [hop]) (v:=lookV z ok es r) ?_ hd (SV.of_rel' E _) (SV.of_ment' M _)
   simp only [execOp,hop,rk,rx]
   simp only [Sem.run_bind,Instr.lookup,run_underlying ht,Result.andThen,getObj_map' hw,Sem.run_pure,hf.ck,hf.find]
   unfold lookV
   cases hm:mapAt es r with
   | none=>cases ok<;>simp [hzr,Result.andThen]
   | some q=>cases ok<;>simp [Result.andThen]
  rename_i p hH
  obtain ⟨⟨es,clock,hp⟩,⟨r,hf,⟨hd⟩⟩⟩:=hd
  obtain ⟨_,hw⟩:=C.sim.own _ _ (C.view _ _ hH) _ _ hp
  rw [hp] at hf hd
  dsimp only [mapEs] at hf hd
  refine C.quiet (by simp [hop]) (v:=lookV z ok es r) ?_ hd (SV.of_rel' E _) (SV.of_ment' M _)
  simp only [execOp,hop,rk,rx]
  simp only [Sem.run_bind,Instr.lookup,run_underlying ht,Result.andThen,getObj_map' hw,Sem.run_pure,hf.ck,hf.find]
  unfold lookV
  cases hm:mapAt es r with
  | none=>cases ok<;>simp [hzr,Result.andThen]
  | some q=>cases ok<;>simp [Result.andThen]

theorem op_lenM (C:Ctx w0 G0 Gr G M E H Hv hid fr a W) {t kt e:TypeId} {x:Operand} {x':Opd} (hx:compOpd x = some x') (ht:P.underlying t = some (.map kt e))
  (hop:o.op = .call { callee:=.builtin .len,args:=#[x],argTypes:=#[t] }) (hd:(ev tab fr Hv hid (.lenM x')).den P hid Gr G K):Goal P o a W rd nn Q w0 G0 M E H hid K:=by
 have rx:=opd_rel C.rfr hx
 simp only [ev] at hd
 split at hd
 case h_3=>exact hd.elim
 ·rename_i h ex
  rw [ex] at rx
  obtain ⟨e1,b,e2⟩:=rx
  split at hd
  case h_2=>exact hd.elim
  rename_i s es clock hH
  obtain ⟨b',e3,_,hw,_⟩:=C.sim.own _ _ (C.view _ _ hH)
  rw [e2] at e3;cases e3
  exact C.quiet (v:=.int .i64 es.size) (by simp [hop]) (by simp [execOp,hop,resolve,invoke,builtin,e1,e2,Builtin.len_,run_underlying ht,goInt,getObj_map' hw,Result.andThen]) hd rfl trivial
 ·rename_i b em
  rw [em] at rx
  have rx:a.eval x = .map (some b):=rx
  split at hd
  case h_2 =>
   obtain ⟨es,clock,hG,⟨hd⟩⟩:=hd
   have hw:=C.sim.sub _ _ (C.gr _ _ hG)
   exact C.quiet (v:=.int .i64 es.size) (by simp [hop]) (by simp [execOp,hop,resolve,invoke,builtin,rx,Builtin.len_,run_underlying ht,goInt,getObj_map' hw,Result.andThen]) hd rfl trivial
  rename_i p hH
  obtain ⟨⟨es,clock,hp⟩,⟨hd⟩⟩:=hd
  obtain ⟨_,hw⟩:=C.sim.own _ _ (C.view _ _ hH) _ _ hp
  rw [hp] at hd
  exact C.quiet (v:=.int .i64 es.size) (by simp [hop]) (by simp [execOp,hop,resolve,invoke,builtin,rx,Builtin.len_,run_underlying ht,goInt,getObj_map' hw,Result.andThen]) hd rfl trivial
theorem op_mup (C:Ctx w0 G0 Gr G M E H Hv hid fr a W) {t kt e:TypeId} {m key x:Operand} {m' key' x':Opd} (hm:compOpd m = some m') (hk:compOpd key = some key') (hx:compOpd x = some x') (ht:P.underlying t = some (.map kt e))
  (hop:o.op = .mapUpdate t m key x∨o.op = .insert t m key x) (hd:(ev tab fr Hv hid (.mup kt m' key' x')).den P hid Gr G K):Goal P o a W rd nn Q w0 G0 M E H hid K:=by
 have rm:=opd_rel C.rfr hm
 have rk:=opd_rel C.rfr hk
 have rx:=opd_rel C.rfr hx
 simp only [ev] at hd
 split at hd
 case h_2=>exact hd.elim
 rename_i kv ek
 have rk:a.eval key = kv:=SV.toVal_rel (fun h ob v e e'=>C.sim.name (C.view h ob e) e') rk ek
 split at hd
 case h_2=>exact hd.elim
 rename_i vv ev'
 have rx:a.eval x = vv:=SV.toVal_rel (fun h ob v e e'=>C.sim.name (C.view h ob e) e') rx ev'
 split at hd
 case h_3=>exact hd.elim
 ·rename_i h em
  rw [em] at rm
  obtain ⟨e1,b,e2⟩:=rm
  split at hd
  case h_2=>exact hd.elim
  rename_i s es clock hH
  have hH':=C.view _ _ hH
  obtain ⟨b',e3,hmine,hw,hat⟩:=C.sim.own _ _ hH'
  rw [e2] at e3;cases e3
  obtain ⟨r,hf,⟨hd⟩⟩:=hd
  obtain ⟨W',hW'⟩:∃ W':World,W' = { W with heap:=W.heap.setIfInBounds b (.map (putE es clock kv vv r).1 (putE es clock kv vv r).2) }:=⟨_,rfl⟩
  have hlt:=(Array.getElem?_eq_some_iff.1 hw).1
  have hrun:(Instr.mapUpdate t (.map (some b)) kv vv).run P W = .ok () W':=by
   unfold Instr.mapUpdate
   simp only [Sem.run_bind,run_underlying ht,Result.andThen,getObj_map' hw,hf.ck,hf.find]
   cases r with
   | none=>simp [mapAt,setObj_map' _ hw,putE,hW']
   | some i =>
    have hs:=hf.same i rfl
    simp [mapAt,Instr.keyThatStays,hs,setObj_map' _ hw,putE,hW']
  refine wp_of_skip (W':=W') (by rcases hop with hop | hop<;>simp [hop]) (by rcases hop with hop | hop<;>simp [execOp,hop,rk,rx,e1,e2,hrun]) ?_
  refine ⟨.c .any,_,G,E,hd,trivial,trivial,Agree.refl _ _,C.sim.set (W':=W') hH' rfl (by rw [e2];rfl) (by rw [hW'];exact ⟨rfl,rfl,rfl,by simp⟩) (fun k _ hk=>by rw [hW'];simp [Array.getElem?_setIfInBounds_ne (Ne.symm hk)]) ?_ rfl, ?_⟩
  ·exact ⟨b,e2,hmine,by rw [hW'];simp [hlt],hat⟩
  ·intro k ob2 e
   simp only [updH] at e
   by_cases hki:k = h
   ·subst hki;rw [upd_same] at e;cases e;exact ⟨.inl (C.mH _ _ hH').1,trivial⟩
   ·rw [upd_other _ _ hki] at e;exact ⟨.inl (C.mH k ob2 e).1,OB.ment_mono (fun _ h=>.inl h) (C.mH k ob2 e).2⟩
 ·rename_i b em
  rw [em] at rm
  have rm:a.eval m = .map (some b):=rm
  split at hd
  case h_2=>exact hd.elim
  rename_i p hH
  obtain ⟨⟨es,clock,hp⟩,⟨r,hf,⟨hd⟩⟩⟩:=hd
  have hH':=C.view _ _ hH
  obtain ⟨hmine,hw⟩:=C.sim.own _ _ hH' _ _ hp
  rw [hp] at hf hd
  dsimp only [mapEs,mapCk] at hf hd
  obtain ⟨W',hW'⟩:∃ W':World,W' = { W with heap:=W.heap.setIfInBounds b (.map (putE es clock kv vv r).1 (putE es clock kv vv r).2) }:=⟨_,rfl⟩
  have hlt:=(Array.getElem?_eq_some_iff.1 hw).1
  have hrun:(Instr.mapUpdate t (.map (some b)) kv vv).run P W = .ok () W':=by
   unfold Instr.mapUpdate
   simp only [Sem.run_bind,run_underlying ht,Result.andThen,getObj_map' hw,hf.ck,hf.find]
   cases r with
   | none=>simp [mapAt,setObj_map' _ hw,putE,hW']
   | some i =>
    have hs:=hf.same i rfl
    simp [mapAt,Instr.keyThatStays,hs,setObj_map' _ hw,putE,hW']
  refine wp_of_skip (W':=W') (by rcases hop with hop | hop<;>simp [hop]) (by rcases hop with hop | hop<;>simp [execOp,hop,rk,rx,rm,hrun]) ?_
  have oth:∀ k,k≠b→W'.heap[k]? = W.heap[k]?:=fun k hk=>by rw [hW'];simp [Array.getElem?_setIfInBounds_ne (Ne.symm hk)]
  refine ⟨.c .any,_,G,E,hd,trivial,trivial,Agree.refl _ _,C.sim.set (b:=b) (W':=W') (ob':=.heap (upd p b (some (.map (putE es clock kv vv r).1 (putE es clock kv vv r).2)))) hH' rfl ⟨_,hp⟩ (by rw [hW'];exact ⟨rfl,rfl,rfl,by simp⟩) (fun k _ hk=>oth k hk) ?_ rfl (fun b' h'=>(heap_has h').elim (fun e=>by subst e;exact ⟨_,hp⟩) id), ?_⟩
  ·intro b' o' ho'
   by_cases hb':b' = b
   ·subst hb';rw [upd_same] at ho';cases ho';exact ⟨hmine,by rw [hW'];simp [hlt]⟩
   ·rw [upd_other _ _ hb'] at ho'
    obtain ⟨q1,q2⟩:=C.sim.own _ _ hH' _ _ ho'
    exact ⟨q1,(oth _ hb').trans q2⟩
  ·intro k' ob2 e
   simp only [updH] at e
   by_cases hk0:k' = 0
   ·subst hk0;rw [upd_same] at e;cases e;exact ⟨.inl (C.mH _ _ hH').1,trivial⟩
   ·rw [upd_other _ _ hk0] at e;exact ⟨.inl (C.mH k' ob2 e).1,OB.ment_mono (fun _ h=>.inl h) (C.mH k' ob2 e).2⟩
theorem op_del (C:Ctx w0 G0 Gr G M E H Hv hid fr a W) {t kt t2:TypeId} {m key:Operand} {m' key':Opd} (hm:compOpd m = some m') (hk:compOpd key = some key') (ht:∃ e,P.underlying t = some (.map kt e))
  (hop:o.op = .call { callee:=.builtin .delete,args:=#[m,key],argTypes:=#[t,t2] }) (hd:(ev tab fr Hv hid (.del kt m' key')).den P hid Gr G K):Goal P o a W rd nn Q w0 G0 M E H hid K:=by
 obtain ⟨e,ht⟩:=ht
 have rm:=opd_rel C.rfr hm
 have rk:=opd_rel C.rfr hk
 simp only [ev] at hd
 split at hd
 case h_2=>exact hd.elim
 rename_i kv ek
 have rk:a.eval key = kv:=SV.toVal_rel (fun h ob v e e'=>C.sim.name (C.view h ob e) e') rk ek
 split at hd
 case h_2=>exact hd.elim
 rename_i b em
 rw [em] at rm
 have rm:a.eval m = .map (some b):=rm
 split at hd
 case h_2=>exact hd.elim
 rename_i p hH
 obtain ⟨⟨es,clock,hp⟩,⟨r,hf,⟨hd⟩⟩⟩:=hd
 have hH':=C.view _ _ hH
 obtain ⟨hmine,hw⟩:=C.sim.own _ _ hH' _ _ hp
 rw [hp] at hf hd
 dsimp only [mapEs,mapCk] at hf hd
 obtain ⟨W',hW'⟩:∃ W':World,W' = { W with heap:=W.heap.setIfInBounds b (.map (delE es r) clock) }:=⟨_,rfl⟩
 have hlt:=(Array.getElem?_eq_some_iff.1 hw).1
 have hrun:(Builtin.delete_ #[t,t2] o.type #[.map (some b),kv]).run P W = .ok (.tuple #[]) W':=by
  cases r with
  | none=>simp [Builtin.delete_,run_underlying ht,getObj_map' hw,hf.ck,hf.find,mapAt,setObj_map' _ hw,delE,hW',Result.andThen]
  | some i=>simp [Builtin.delete_,run_underlying ht,getObj_map' hw,hf.ck,hf.find,mapAt,setObj_map' _ hw,delE,hW',Result.andThen]
 refine wp_of_run (v:=.tuple #[]) (W':=W') (by simp [hop]) (by simp [execOp,hop,resolve,invoke,builtin,rm,rk,hrun]) ?_
 have oth:∀ k,k≠b→W'.heap[k]? = W.heap[k]?:=fun k hk=>by rw [hW'];simp [Array.getElem?_setIfInBounds_ne (Ne.symm hk)]
 refine ⟨.c .any,_,G,E,hd,trivial,trivial,Agree.refl _ _,C.sim.set (b:=b) (W':=W') (ob':=.heap (upd p b (some (.map (delE es r) clock)))) hH' rfl ⟨_,hp⟩ (by rw [hW'];exact ⟨rfl,rfl,rfl,by simp⟩) (fun k _ hk=>oth k hk) ?_ rfl (fun b' h'=>(heap_has h').elim (fun e=>by subst e;exact ⟨_,hp⟩) id), ?_⟩
 ·intro b' o' ho'
  by_cases hb':b' = b
  ·subst hb';rw [upd_same] at ho';cases ho';exact ⟨hmine,by rw [hW'];simp [hlt]⟩
  ·rw [upd_other _ _ hb'] at ho'
   obtain ⟨q1,q2⟩:=C.sim.own _ _ hH' _ _ ho'
   exact ⟨q1,(oth _ hb').trans q2⟩
 ·intro k' ob2 e
  simp only [updH] at e
  by_cases hk0:k' = 0
  ·subst hk0;rw [upd_same] at e;cases e;exact ⟨.inl (C.mH _ _ hH').1,trivial⟩
  ·rw [upd_other _ _ hk0] at e;exact ⟨.inl (C.mH k' ob2 e).1,OB.ment_mono (fun _ h=>.inl h) (C.mH k' ob2 e).2⟩
theorem run_copy_k (w:World) (dT sT ty elem:TypeId) (g o dLen dCap:Nat) (a:Addr) (sLen sCap:Nat) (cur:Array Value) (t:TypeId) (cs:List Value) {i:TypeInfo}
  (hu:P.underlying dT = some (.slice elem)) (hs:P.info? elem = some i) (hg:w.heap[g]? = some (.cells cur t (0,0))) (hn:cs.length = Nat.min sLen dLen * i.size)
  (hsrc:∀ j v,cs[j]? = some v→w.cell? (a.add j) = some v) (hfit:o + cs.length≤cur.size) (h1:∀ v∈cs,v.oneCell' = true) :
  (Builtin.copy_ #[dT,sT] ty #[.slice (some ⟨g,o,none⟩) dLen dCap, .slice (some a) sLen sCap]).run P w =
   .ok (goInt (Nat.min sLen dLen)) (w.setRow g (cur.toList.take o++cs++cur.toList.drop (o + cs.length)).toArray):=by
 have hl:=run_loadCells_list (P:=P) w a cs hsrc
 have hst:=run_storeCells_at P g o t cs 0 cur w hg (by simpa using hfit) h1
 simp [Builtin.copy_,run_underlying hu,Builtin.lenOf,Builtin.firstCells,sizeOf,typeInfo,hs, ← hn,hl,hst]
theorem run_growz (t tn ty e:TypeId) (i:TypeInfo) (z:Value) (k kn:IntKind) (ht:P.underlying t = some (.slice e)) (htn:P.underlying tn = some (.int kn)) (hi:P.info? e = some i) (hz:i.zero = some z)
  (b:Addr) (n cap:Nat) (olds:List Value) (hlo:olds.length = n * i.size) (holds:∀ j u,olds[j]? = some u→W.cell? (b.add j) = some u) (m:Nat) (hm:0 < m) (hsz:0 < i.size)
  (hg:cap < n + m) (h63:n + m≤9223372036854775807) (hbytes:(n + m) * i.bytes≤140737488355328) (hb1:1≤i.bytes) :
  (Builtin.append_ #[t,tn] ty #[.slice (some b) n cap, .int k m]).run P W = .ok (.slice (some ⟨W.heap.size,0,none⟩) (n + m) (grownCap W (n + m) cap e)) (W.drew.alloc (.cells (olds.toArray++Builtin.zeroCells z.cells m++Builtin.zeroCells z.cells (grownCap W (n + m) cap e - (n + m))) e)):=by
 have hn:¬ (n + m≤cap):=by omega
 have hm0:m≠0:=by omega
 have hw:IntKind.i64.wrap (m:Int) = m:=by rw [IntKind.wrap_i64];omega
 have h63':¬ (9223372036854775807 < ((n:Int) + (m:Int))):=by omega
 have hfit:=growslice_fits hg hbytes
 have h48':¬ (281474976710656 < Builtin.nextslicecap (n + m) cap * i.bytes):=by omega
 have hmb:m * i.bytes≤(n + m) * i.bytes:=Nat.mul_le_mul_right _ (by omega)
 have h48i:¬ (281474976710656 < (m:Int) * (i.bytes:Int)):=by
  rw [← Int.natCast_mul]
  omega
 have hms:¬ (m * i.size = 0):=fun h=>by
  rcases Nat.mul_eq_zero.1 h with h | h<;>omega
 have hfo:=run_firstCells_some (P:=P) W.drew i.size n b n cap olds hlo (by simpa using holds)
 have hsz0:i.size≠0:=by omega
 have hneg:¬ ((m:Int) < 0):=by omega
 simp [Builtin.append_,run_underlying ht,run_underlying htn,sizeOf,typeInfo,zeroValue,hi,hz,asInt,asIntOf,hneg,hw,hm0,hsz0,hn,h63',h48',h48i,hms,Question.forced,hfo,newRow,grownCap]
theorem op_appz (C:Ctx w0 G0 Gr G M E H Hv hid fr a W) {t t' e:TypeId} {kn:IntKind} {zs:List Value} {by':Nat} {s x:Operand} {s' x':Opd} (hss:compOpd s = some s') (hx:compOpd x = some x') (ht:P.underlying t = some (.slice e)) (ht':P.underlying t' = some (.int kn)) (hz:zeroT P e = some zs)
  (hb:byT P e = some by') (hk:1≤zs.length) (hb1:1≤by') (hop:o.op = .call { callee:=.builtin .append,args:=#[s,x],argTypes:=#[t,t'] }) (hd:(ev tab fr Hv hid (.appz e zs.length by' zs s' x')).den P hid Gr G K):Goal P o a W rd nn Q w0 G0 M E H hid K:=by
 have rs:=opd_rel C.rfr hss
 have rx:=opd_rel C.rfr hx
 obtain ⟨z,i,hi,hiz,hzs,hsz,_,_⟩:=run_zero' (W:=W) hz
 have hby:i.bytes = by':=by unfold byT at hb;rw [hi] at hb;simpa using hb
 simp only [ev] at hd
 split at hd
 case h_2=>exact hd.elim
 rename_i p hH
 have hH':=C.view _ _ hH
 split at hd
 case h_2=>exact hd.elim
 rename_i a0 n c kk m es ex
 rw [es] at rs
 rw [ex] at rx
 have rs:a.eval s = .slice a0 n c:=rs
 have rx:a.eval x = .int kk m:=rx
 obtain ⟨cs,t1,hp,⟨⟨rfl,ea,hcl,hnc,hm,hcap,hbytes⟩,⟨hd⟩⟩⟩:=hd
 obtain ⟨hmine,hw⟩:=C.sim.own _ _ hH' _ _ hp
 obtain ⟨m,rfl⟩:∃ k:Nat,m = k:=⟨m.toNat,by omega⟩
 simp only [Int.toNat_natCast] at hcap hbytes hd
 have hle:n * zs.length≤c * zs.length:=Nat.mul_le_mul_right _ hnc
 have htl:(cs.take (n * zs.length)).length = n * i.size:=by rw [List.length_take,hcl, ← hsz];omega
 have hnm:n + m≤140737488355328:=Nat.le_trans (Nat.le_mul_of_pos_right _ hb1) hbytes
 have hr:=run_growz (P:=P) (W:=W) t t' o.type t1 i z kk kn ht ht' hi hiz ⟨ab a0,0,none⟩ n c (cs.take (n * zs.length)) htl (fun j u hj=>by
  rw [Addr.add_lit,List.getElem?_take] at *
  split at hj
  ·simp [World.cell?,hw,hj]
  ·cases hj) m (by omega) (by omega) hcap (by omega) (by rw [hby];exact hbytes) (by omega)
 rw [← ea] at hr
 have hza:zs.toArray = z.cells:=by rw [← hzs]
 refine wp_of_run (by simp [hop]) (v:=.slice (some ⟨W.heap.size,0,none⟩) (n + m) (grownCap W (n + m) c t1)) (W':=W.drew.alloc (.cells ((cs.take (n * zs.length)).toArray++Builtin.zeroCells z.cells m++Builtin.zeroCells z.cells (grownCap W (n + m) c t1 - (n + m))) t1)) (by simp [execOp,hop,resolve,invoke,builtin,rs,rx,hr]) ?_
 have hB:Below W.heap.size W (W.drew.alloc (.cells ((cs.take (n * zs.length)).toArray++Builtin.zeroCells z.cells m++Builtin.zeroCells z.cells (grownCap W (n + m) c t1 - (n + m))) t1)):=⟨rfl,rfl,rfl,by simp,fun k hk=>heap_alloc_old W.drew _ hk⟩
 have hpn:p W.heap.size = none:=by
  cases hp:p W.heap.size with
  | none=>rfl
  | some o'=>exact absurd (Array.getElem?_eq_some_iff.1 (C.sim.own _ _ hH' _ _ hp).2).1 (Nat.lt_irrefl _)
 have hobj:(cs.take (n * zs.length)).toArray++Builtin.zeroCells z.cells m++Builtin.zeroCells z.cells (grownCap W (n + m) c t1 - (n + m)) = ((cs.take (n * zs.length)++(Builtin.zeroCells z.cells m).toList)++(Builtin.zeroCells z.cells (grownCap W (n + m) c t1 - (n + m))).toList).toArray:=by
  apply Array.ext';simp
 rw [hza] at hd
 refine ⟨_,_,G,E,(hd.k W.heap.size (grownCap W (n + m) c t1) (Builtin.zeroCells z.cells (grownCap W (n + m) c t1 - (n + m))).toList hpn (grownCap_ge W (n + m) c t1) (grownCap_le_maxLen W (n + m) c t1 (by unfold maxLen;omega)) (by rw [Array.length_toList,size_zeroCells, ← hzs];simp)).out,rfl,trivial,Agree.refl _ _,C.sim.heapNew hH' hB (by rw [hobj];exact heap_alloc_new W.drew _), ?_⟩
 intro k' ob2 e
 simp only [updH] at e
 by_cases hk0:k' = 0
 ·subst hk0;rw [upd_same] at e;cases e;exact ⟨.inl (C.mH _ _ hH').1,trivial⟩
 ·rw [upd_other _ _ hk0] at e;exact ⟨.inl (C.mH k' ob2 e).1,OB.ment_mono (fun _ h=>.inl h) (C.mH k' ob2 e).2⟩
theorem op_cap (C:Ctx w0 G0 Gr G M E H Hv hid fr a W) {t e:TypeId} {x:Operand} {x':Opd} (hx:compOpd x = some x') (ht:P.underlying t = some (.slice e))
  (hop:o.op = .call { callee:=.builtin .cap,args:=#[x],argTypes:=#[t] }) (hd:(ev tab fr Hv hid (.cap x')).den P hid Gr G K):Goal P o a W rd nn Q w0 G0 M E H hid K:=by
 have rx:=opd_rel C.rfr hx
 simp only [ev] at hd
 split at hd
 case h_2=>exact hd.elim
 rename_i ad n c ex
 rw [ex] at rx
 have rx:a.eval x = .slice ad n c:=rx
 exact C.quiet (v:=.int .i64 c) (by simp [hop]) (by simp [execOp,hop,resolve,invoke,builtin,rx,Builtin.cap_,run_underlying ht,goInt]) hd rfl trivial
theorem op_clr (C:Ctx w0 G0 Gr G M E H Hv hid fr a W) {t e:TypeId} {zs:List Value} {x:Operand} {x':Opd} (hx:compOpd x = some x') (ht:elemT P t = some e) (hz:zeroT P e = some zs)
  (hop:o.op = .call { callee:=.builtin .clear,args:=#[x],argTypes:=#[t] }) (hd:(ev tab fr Hv hid (.clr zs x')).den P hid Gr G K):Goal P o a W rd nn Q w0 G0 M E H hid K:=by
 have rx:=opd_rel C.rfr hx
 have hu:P.underlying t = some (.slice e):=by
  unfold elemT at ht
  split at ht
  ·cases ht;assumption
  ·cases ht
 simp only [ev] at hd
 split at hd
 case h_2=>exact hd.elim
 rename_i p hH
 have hH':=C.view _ _ hH
 split at hd
 case h_2=>exact hd.elim
 rename_i a0 n c0 es
 rw [es] at rx
 have rx:a.eval x = .slice a0 n c0:=rx
 obtain ⟨cs,ty,hp,⟨⟨hn0,ea,hfit⟩,⟨hd⟩⟩⟩:=hd
 obtain ⟨hmine,hw⟩:=C.sim.own _ _ hH' _ _ hp
 obtain ⟨z,i,hi,hiz,hzs,hsz,hone,hzr⟩:=run_zero' (W:=W) hz
 have hza:zs.toArray = z.cells:=by rw [← hzs]
 have hlen:(Builtin.zeroCells z.cells n).toList.length = n * zs.length:=by
  rw [Array.length_toList,size_zeroCells, ← hzs];simp
 have h1:∀ v∈(Builtin.zeroCells z.cells n).toList,v.oneCell' = true:=fun v hv=>by
  have:v∈zs:=by
   rw [Array.mem_toList_iff] at hv
   unfold Builtin.zeroCells at hv
   obtain ⟨j,hj,e⟩:=Array.mem_iff_getElem.1 hv
   have hpos:0 < z.cells.size:=by
    rcases Nat.eq_zero_or_pos z.cells.size with h0 | h0
    ·simp [h0] at hj
    ·exact h0
   simp at e
   rw [← e, ← hzs]
   have hlt:j % z.cells.size < z.cells.size:=Nat.mod_lt _ hpos
   rw [getElem!_pos z.cells (j % z.cells.size) hlt]
   simp
  exact hone v this
 have hst:=run_storeCells_at P (ab a0) (ao a0) ty (Builtin.zeroCells z.cells n).toList 0 cs.toArray W hw (by rw [hlen];simpa using hfit) h1
 rw [hlen] at hst
 simp only [Nat.add_zero] at hst
 obtain ⟨m,rfl⟩:∃ m,n = m + 1:=⟨n - 1,by omega⟩
 have hr:(Builtin.clear_ #[t] o.type #[.slice a0 (m + 1) c0]).run P W = .ok (.tuple #[]) (W.setRow (ab a0) (cs.take (ao a0)++(Builtin.zeroCells z.cells (m + 1)).toList++cs.drop (ao a0 + (m + 1) * zs.length)).toArray):=by
  rw [ea]
  simp [Builtin.clear_,run_underlying hu,hzr,hst]
 rw [hza] at hd
 refine wp_of_run (by simp [hop]) (v:=.tuple #[]) (W':=W.setRow (ab a0) (cs.take (ao a0)++(Builtin.zeroCells z.cells (m + 1)).toList++cs.drop (ao a0 + (m + 1) * zs.length)).toArray) (by simp [execOp,hop,resolve,invoke,builtin,rx,hr]) ?_
 refine ⟨_,_,G,E,hd,trivial,trivial,Agree.refl _ _,C.sim.set (b:=ab a0) (W':=W.setRow (ab a0) (cs.take (ao a0)++(Builtin.zeroCells z.cells (m + 1)).toList++cs.drop (ao a0 + (m + 1) * zs.length)).toArray) (ob':=.heap (upd p (ab a0) (some (.cells (cs.take (ao a0)++(Builtin.zeroCells z.cells (m + 1)).toList++cs.drop (ao a0 + (m + 1) * zs.length)).toArray ty (0,0))))) hH' rfl ⟨_,hp⟩ ⟨rfl,rfl,rfl,by simp⟩ (fun k _ hk=>setRow_other W _ k _ hk) ?_ rfl (fun b' h'=>(heap_has h').elim (fun e=>by subst e;exact ⟨_,hp⟩) id), ?_⟩
 ·intro b' o' ho'
  by_cases hb':b' = ab a0
  ·subst hb';rw [upd_same] at ho';cases ho';exact ⟨hmine,setRow_heap W _ _ _ ty (0,0) hw⟩
  ·rw [upd_other _ _ hb'] at ho'
   obtain ⟨q1,q2⟩:=C.sim.own _ _ hH' _ _ ho'
   exact ⟨q1,(setRow_other W _ _ _ hb').trans q2⟩
 ·intro k' ob2 e
  simp only [updH] at e
  by_cases hk0:k' = 0
  ·subst hk0;rw [upd_same] at e;cases e;exact ⟨.inl (C.mH _ _ hH').1,trivial⟩
  ·rw [upd_other _ _ hk0] at e;exact ⟨.inl (C.mH k' ob2 e).1,OB.ment_mono (fun _ h=>.inl h) (C.mH k' ob2 e).2⟩
theorem op_cpy (C:Ctx w0 G0 Gr G M E H Hv hid fr a W) {t t' e:TypeId} {k:Nat} {d s:Operand} {d' s':Opd} (hdd:compOpd d = some d') (hss:compOpd s = some s') (ht:elemT P t = some e) (hk:szT P e = some k)
  (hop:o.op = .call { callee:=.builtin .copy,args:=#[d,s],argTypes:=#[t,t'] }) (hd:(ev tab fr Hv hid (.cpy k d' s')).den P hid Gr G K):Goal P o a W rd nn Q w0 G0 M E H hid K:=by
 have rd:=opd_rel C.rfr hdd
 have hu:P.underlying t = some (.slice e):=by
  unfold elemT at ht
  split at ht
  ·cases ht;assumption
  ·cases ht
 obtain ⟨i,hi,hik⟩:∃ i,P.info? e = some i∧i.size = k:=by
  unfold szT at hk
  split at hk
  ·cases hk;exact ⟨_, ‹_›,rfl⟩
  ·cases hk
 simp only [ev] at hd
 split at hd
 case h_2=>exact hd.elim
 rename_i p hH
 have hH':=C.view _ _ hH
 split at hd
 case h_2=>exact hd.elim
 rename_i a0 n c0 ad m c es es2
 rw [es] at rd
 have rs:=opd_rel C.rfr hss
 rw [es2] at rs
 have rd:a.eval d = .slice a0 n c0:=rd
 have e2:a.eval s = .slice ad m c:=rs
 obtain ⟨⟨hm0,ead⟩,⟨us,hrd,hd⟩⟩:=hd
 obtain ⟨h2,⟨hd⟩⟩:=(hd (C.disj hH)).out
 have hl:=hrd.1
 have hcells:=C.rdh_cells hH hrd
 obtain ⟨cs,ty,hp,⟨⟨ea,hfit⟩,⟨hd⟩⟩⟩:=hd
 obtain ⟨b,rfl⟩:∃ b,ad = some b:=⟨_,ead⟩
 have hcc:∀ j u,us[j]? = some u→W.cell? (b.add j) = some u:=fun j u hj=>by
  have:=hcells j u hj
  rw [Option.some.inj ead,Addr.add_lit];exact this
 obtain ⟨hmine,hw⟩:=C.sim.own _ _ hH' _ _ hp
 have htl:us.length = Nat.min m n * i.size:=by rw [hik];exact hl
 have hr:=run_copy_k (P:=P) W t t' o.type e (ab a0) (ao a0) n c0 b m c cs.toArray ty us hu hi hw htl hcc (by rw [htl,hik];simpa using hfit) h2
 rw [htl,hik] at hr
 rw [← ea] at hr
 have hr':(Builtin.copy_ #[t,t'] o.type #[.slice a0 n c0, .slice (some b) m c]).run P W = .ok (goInt (Nat.min m n)) (W.setRow (ab a0) (cs.take (ao a0)++us++cs.drop (ao a0 + min m n * k)).toArray):=hr
 refine wp_of_run (by simp [hop]) (v:=goInt (Nat.min m n)) (W':=W.setRow (ab a0) (cs.take (ao a0)++us++cs.drop (ao a0 + min m n * k)).toArray) (by simp [execOp,hop,resolve,invoke,builtin,rd,e2,hr']) ?_
 refine ⟨_,_,G,E,hd,rfl,trivial,Agree.refl _ _,C.sim.set (b:=ab a0) (W':=W.setRow (ab a0) (cs.take (ao a0)++us++cs.drop (ao a0 + min m n * k)).toArray) (ob':=.heap (upd p (ab a0) (some (.cells (cs.take (ao a0)++us++cs.drop (ao a0 + min m n * k)).toArray ty (0,0))))) hH' rfl ⟨_,hp⟩ ⟨rfl,rfl,rfl,by simp⟩ (fun k _ hk=>setRow_other W _ k _ hk) ?_ rfl (fun b' h'=>(heap_has h').elim (fun e=>by subst e;exact ⟨_,hp⟩) id), ?_⟩
 ·intro b' o' ho'
  by_cases hb':b' = ab a0
  ·subst hb';rw [upd_same] at ho';cases ho';exact ⟨hmine,setRow_heap W _ _ _ ty (0,0) hw⟩
  ·rw [upd_other _ _ hb'] at ho'
   obtain ⟨q1,q2⟩:=C.sim.own _ _ hH' _ _ ho'
   exact ⟨q1,(setRow_other W _ _ _ hb').trans q2⟩
 ·intro k' ob2 e
  simp only [updH] at e
  by_cases hk0:k' = 0
  ·subst hk0;rw [upd_same] at e;cases e;exact ⟨.inl (C.mH _ _ hH').1,trivial⟩
  ·rw [upd_other _ _ hk0] at e;exact ⟨.inl (C.mH k' ob2 e).1,OB.ment_mono (fun _ h=>.inl h) (C.mH k' ob2 e).2⟩
theorem op_apph (C:Ctx w0 G0 Gr G M E H Hv hid fr a W) {t e:TypeId} {zs:List Value} {by':Nat} {s x:Operand} {s' x':Opd} (hss:compOpd s = some s') (hx:compOpd x = some x') (ht:P.underlying t = some (.slice e)) (hz:zeroT P e = some zs)
  (hb:byT P e = some by') (hk:1≤zs.length) (hb1:1≤by') (hop:o.op = .call { callee:=.builtin .append,args:=#[s,x],argTypes:=#[t,t] }) (hd:(ev tab fr Hv hid (.apph e zs.length by' s' x')).den P hid Gr G K):Goal P o a W rd nn Q w0 G0 M E H hid K:=by
 have rs:=opd_rel C.rfr hss
 obtain ⟨z,i,hi,hiz,hzs,hsz,_,_⟩:=run_zero' (W:=W) hz
 have hby:i.bytes = by':=by unfold byT at hb;rw [hi] at hb;simpa using hb
 have hzz:z.cells.size = zs.length:=by rw [← hzs];simp
 have hnd:∀ c,o.op≠.defer c:=by simp [hop]
 simp only [ev] at hd
 split at hd
 case h_2=>exact hd.elim
 rename_i p hH
 have hH':=C.view _ _ hH
 have fin:∀ {ob:OB},ob.ment (fun k=>M k∨k = hid)→∀ k ob2,updH H [(0,some ob)] k = some ob2→(M k∨k = hid)∧ob2.ment (fun k=>M k∨k = hid):=fun {ob} hm k ob2 e=>by
  simp only [updH] at e
  by_cases hk0:k = 0
  ·subst hk0;rw [upd_same] at e;cases e;exact ⟨.inl (C.mH _ _ hH').1,hm⟩
  ·rw [upd_other _ _ hk0] at e;exact ⟨.inl (C.mH k ob2 e).1,OB.ment_mono (fun _ h=>.inl h) (C.mH k ob2 e).2⟩
 -- a new row
 have fresh:∀ (v:Value) (n c0:Nat) (vs:List Value) ad m c us,a.eval s = v→((v = .slice none 0 0∧n = 0∧c0 = 0)∨∃ b,v = .slice (some b) n c0∧∀ j u,vs[j]? = some u→W.cell? (b.add j) = some u)→vs.length = n * zs.length→a.eval x = .slice (some ad) m c→us.length = m * zs.length→(∀ j u,us[j]? = some u→W.cell? (ad.add j) = some u) →
   c0 < n + m→(n + m) * by'≤140737488355328→(Res.appn p (n + m) (vs++us) e zs.length).den P hid Gr G K→Goal P o a W rd nn Q w0 G0 M E H hid K:=by
  intro v n c0 vs ad m c us e1 hv hvl e2 hl hcc hcap hbytes hd
  have hle:n + m≤140737488355328:=Nat.le_trans (Nat.le_mul_of_pos_right _ hb1) hbytes
  obtain ⟨cap',rest,g1,g2,g3,hr⟩:=run_grow (P:=P) (W:=W) t o.type e i z zs.length by' ht hi hiz hsz.symm hby hzz (by omega) v n c0 vs hv hvl ad m c us hl hcc hcap (by unfold maxLen;omega) hbytes
  refine wp_of_run hnd (v:=.slice (some ⟨W.heap.size,0,none⟩) (n + m) cap') (W':=W.drew.alloc (.cells (vs++us++rest).toArray e)) (by simp [execOp,hop,resolve,invoke,builtin,e1,e2,hr]) ?_
  have hB:Below W.heap.size W (W.drew.alloc (.cells (vs++us++rest).toArray e)):=⟨rfl,rfl,rfl,by simp,fun k hk=>heap_alloc_old W.drew _ hk⟩
  have hpn:p W.heap.size = none:=by
   cases hp:p W.heap.size with
   | none=>rfl
   | some o'=>exact absurd (Array.getElem?_eq_some_iff.1 (C.sim.own _ _ hH' _ _ hp).2).1 (Nat.lt_irrefl _)
  exact ⟨_,_,G,E,(hd.k W.heap.size cap' rest hpn g1 g2 g3).out,rfl,trivial,Agree.refl _ _,C.sim.heapNew hH' hB (heap_alloc_new W.drew _),fin trivial⟩
 split at hd
 case h_3=>exact hd.elim
 ·rename_i es
  rw [es] at rs
  have rs:a.eval s = .slice none 0 0:=rs
  obtain ⟨ad,m,c,us,e2,hl,hn,hcc,h2,⟨⟨hbytes,hm0⟩,⟨hd⟩⟩⟩:=srcR_sound C hx hd
  obtain ⟨b,rfl⟩:∃ b,ad = some b:=by
   cases ad with
   | none=>exact absurd (hn rfl) hm0
   | some b=>exact ⟨b,rfl⟩
  exact fresh _ 0 0 [] b m c us rs (.inl ⟨rfl,rfl,rfl⟩) (by simp) e2 hl (hcc b rfl) (by omega) (by simpa using hbytes) (by simpa using hd)
 ·rename_i a0 n c0 _ es
  rw [es] at rs
  have rs:a.eval s = .slice a0 n c0:=rs
  obtain ⟨cs,t',hp,⟨⟨rfl,ea,hcl,hnc,hcm,hone⟩,⟨hd⟩⟩⟩:=hd
  obtain ⟨ad,m,c,us,e2,hl,hn,hcc,h2,⟨⟨hbytes,hm0⟩,hd⟩⟩:=srcR_sound C hx hd
  have hd:=hd.out
  obtain ⟨hmine,hw⟩:=C.sim.own _ _ hH' _ _ hp
  have hle:n * zs.length≤c0 * zs.length:=Nat.mul_le_mul_right _ hnc
  cases ad with
  | none =>
   obtain rfl:m = 0:=hn rfl
   have hd:=(hd.t (by omega)).out
   obtain rfl:us = []:=List.eq_nil_of_length_eq_zero (by simpa using hl)
   have hr:(Builtin.append_ #[t,t] o.type #[.slice a0 n c0, .slice none 0 c]).run P W = .ok (.slice a0 n c0) W:=by
    rw [ea]
    simp [Builtin.append_,run_underlying ht,sizeOf,typeInfo,hi,Builtin.lenOf,hnc,Builtin.firstCells,storeCells]
   have e4:cs.take (n * zs.length)++[]++cs.drop ((n + 0) * zs.length) = cs:=by simp
   rw [e4,show upd p (ab a0) (some (.cells cs.toArray t' (0,0))) = p from funext fun b=>by
    by_cases hb:b = ab a0
    ·subst hb;rw [upd_same,hp]
    ·rw [upd_other _ _ hb]] at hd
   refine wp_of_run hnd (v:=.slice a0 n c0) (W':=W) (by simp [execOp,hop,resolve,invoke,builtin,rs,e2,hr]) ?_
   exact ⟨_,_,G,E,hd,rfl,trivial,Agree.refl _ _,C.sim.set (b:=ab a0) (W':=W) (ob':=.heap p) hH' rfl ⟨_,hp⟩ ⟨rfl,rfl,rfl,Nat.le_refl _⟩ (fun k _ hk=>rfl) (fun b' o' ho'=>C.sim.own _ _ hH' _ _ ho') rfl (fun b' h'=>h'),fin trivial⟩
  | some b =>
   have htl:(cs.take (n * zs.length)).length = n * zs.length:=by rw [List.length_take,hcl];omega
   by_cases hroom:n + m≤c0
   ·have hd:=(hd.t (by omega)).out
    have hr:=run_append_room (P:=P) W t o.type t' i ht hi (ab a0) n c0 _ hw b m c us (by rw [← hsz];exact hl) (hcc b rfl) h2 hroom (by
     rw [← hsz,hl, ← Nat.add_mul]
     simp only [List.size_toArray,hcl]
     exact Nat.mul_le_mul_right _ hroom)
    have e4:(cs.toArray.toList.take (n * i.size)++us++cs.toArray.toList.drop (n * i.size + us.length)).toArray = (cs.take (n * zs.length)++us++cs.drop ((n + m) * zs.length)).toArray:=by
     rw [← hsz,hl,Nat.add_mul]
    rw [e4] at hr
    rw [← ea] at hr
    refine wp_of_run hnd (v:=.slice a0 (n + m) c0) (W':=W.setRow (ab a0) (cs.take (n * zs.length)++us++cs.drop ((n + m) * zs.length)).toArray) (by simp [execOp,hop,resolve,invoke,builtin,rs,e2,hr]) ?_
    refine ⟨_,_,G,E,hd,rfl,trivial,Agree.refl _ _,C.sim.set (b:=ab a0) (W':=W.setRow (ab a0) (cs.take (n * zs.length)++us++cs.drop ((n + m) * zs.length)).toArray) (ob':=.heap (upd p (ab a0) (some (.cells (cs.take (n * zs.length)++us++cs.drop ((n + m) * zs.length)).toArray t' (0,0))))) hH' rfl ⟨_,hp⟩ ⟨rfl,rfl,rfl,by simp⟩ (fun k _ hk=>setRow_other W _ k _ hk) ?_ rfl (fun b' h'=>(heap_has h').elim (fun e=>by subst e;exact ⟨_,hp⟩) id),fin trivial⟩
    intro b' o' ho'
    by_cases hb':b' = ab a0
    ·subst hb';rw [upd_same] at ho';cases ho';exact ⟨hmine,setRow_heap W _ _ _ t' (0,0) hw⟩
    ·rw [upd_other _ _ hb'] at ho'
     obtain ⟨q1,q2⟩:=C.sim.own _ _ hH' _ _ ho'
     exact ⟨q1,(setRow_other W _ _ _ hb').trans q2⟩
   ·have hd:=(hd.f (by omega)).out
    refine fresh _ n c0 (cs.take (n * zs.length)) b m c us rs (.inr ⟨⟨ab a0,0,none⟩,by rw [← ea],fun j u hj=>?_⟩) htl e2 hl (hcc b rfl) (by omega) hbytes hd
    rw [Addr.add_lit]
    unfold World.cell?
    simp only [Nat.zero_add]
    rw [hw]
    rw [List.getElem?_take] at hj
    split at hj
    ·simpa using hj
    ·cases hj
theorem op_newh (C:Ctx w0 G0 Gr G M E H Hv hid fr a W) {p:Hp} {u:Nat→Value} {ob:Obj} (hH:Hv 0 = some (.heap p)) (hnd:∀ c,o.op≠.defer c) (hr:(execOp a.eval o).run P W = .ok (.value (u W.heap.size)) (W.alloc ob)) (hd:(Res.newh p u ob).den P hid Gr G K):Goal P o a W rd nn Q w0 G0 M E H hid K:=by
 have hH':=C.view _ _ hH
 refine wp_of_run hnd (v:=u W.heap.size) (W':=W.alloc ob) hr ?_
 have hB:Below W.heap.size W (W.alloc ob):=⟨rfl,rfl,rfl,by simp,fun k hk=>heap_alloc_old W _ hk⟩
 have hpn:p W.heap.size = none:=by
  cases hp:p W.heap.size with
  | none=>rfl
  | some o'=>exact absurd (Array.getElem?_eq_some_iff.1 (C.sim.own _ _ hH' _ _ hp).2).1 (Nat.lt_irrefl _)
 refine ⟨_,_,G,E,(hd.k W.heap.size hpn).out,rfl,trivial,Agree.refl _ _,C.sim.heapNew hH' hB (heap_alloc_new W _),fun k ob2 e=>?_⟩
 simp only [updH] at e
 by_cases hk0:k = 0
 ·subst hk0;rw [upd_same] at e;cases e;exact ⟨.inl (C.mH _ _ hH').1,trivial⟩
 ·rw [upd_other _ _ hk0] at e;exact ⟨.inl (C.mH k ob2 e).1,OB.ment_mono (fun _ h=>.inl h) (C.mH k ob2 e).2⟩
theorem op_bxh (C:Ctx w0 G0 Gr G M E H Hv hid fr a W) {t:TypeId} {x:Operand} {x':Opd} (hx:compOpd x = some x') (hop:o.op = .box t x) (hd:(ev tab fr Hv hid (.bxh t x')).den P hid Gr G K):Goal P o a W rd nn Q w0 G0 M E H hid K:=by
 have rx:=opd_rel C.rfr hx
 simp only [ev] at hd
 split at hd
 case h_2=>exact hd.elim
 rename_i p hH
 split at hd
 case h_2=>exact hd.elim
 rename_i vs hvs
 cases h1:allOne (x'.ev fr).cells with
 | false=>rw [h1] at hd;exact hd.elim
 | true =>
  rw [h1] at hd
  have hr:=SV.cells_rel rx h1
  have hcv:(a.eval x).cells.toList = vs:=toVals_rel hr hvs
  have hcv2:(a.eval x).cells = vs.toArray:=by rw [← hcv]
  exact op_newh C (u:=fun b=>.pointer (some ⟨b,0,none⟩)) hH (by simp [hop]) (by simp [execOp,hop,Instr.box,newVar,newRow,hcv2]) hd
theorem op_mkmh (C:Ctx w0 G0 Gr G M E H Hv hid fr a W) {t:TypeId} (hop:o.op = .makeMap t none) (hd:(ev tab fr Hv hid .mkmh).den P hid Gr G K):Goal P o a W rd nn Q w0 G0 M E H hid K:=by
 simp only [ev] at hd
 split at hd
 case h_2=>exact hd.elim
 rename_i p hH
 exact op_newh C (u:=fun b=>.map (some b)) hH (by simp [hop]) (by simp [execOp,hop,Instr.makeMap]) hd
theorem op_bslh (C:Ctx w0 G0 Gr G M E H Hv hid fr a W) {t e:TypeId} {len:Nat} {zs:List Value} {parts:Array (Nat × Operand)} {xs:List (Nat × Opd)} (ht:P.underlying t = some (.slice e)) (hz:zeroT P e = some zs) (hxs:compParts parts.toList = some xs)
  (hk:1≤zs.length) (hle:len * zs.length≤16777216) (hop:o.op = .buildSlice t len parts) (hd:(ev tab fr Hv hid (.bslh e zs.length len (List.replicate len zs).flatten xs)).den P hid Gr G K):Goal P o a W rd nn Q w0 G0 M E H hid K:=by
 simp only [ev] at hd
 split at hd
 case h_2=>exact hd.elim
 rename_i p hH
 split at hd
 case h_2=>exact hd.elim
 rename_i cs hlay
 split at hd
 case h_2=>exact hd.elim
 rename_i vs hvs
 cases h1:allOne cs with
 | false=>rw [h1] at hd;exact hd.elim
 | true =>
  rw [h1] at hd
  obtain ⟨hrun,_,_⟩:=bsl_run C ht hz hxs hk hle hop hlay hvs h1
  exact op_newh C (u:=fun b=>.slice (some ⟨b,0,none⟩) len len) hH (by simp [hop]) hrun hd
theorem op_s2b (C:Ctx w0 G0 Gr G M E H Hv hid fr a W) {src dst e:TypeId} {x:Operand} {x':Opd} (hx:compOpd x = some x') (hs:P.underlying src = some .string) (ht:P.underlying dst = some (.slice e)) (he:P.underlying e = some (.int .u8))
  (hop:o.op = .convert src dst x) (hd:(ev tab fr Hv hid (.s2b e x')).den P hid Gr G K):Goal P o a W rd nn Q w0 G0 M E H hid K:=by
 have rx:=opd_rel C.rfr hx
 simp only [ev] at hd
 split at hd
 case h_2=>exact hd.elim
 rename_i s es
 rw [es] at rx
 have rx:a.eval x = .string s:=rx
 have hr:=run_bytes_of_string (P:=P) W src dst e s hs ht he
 obtain ⟨ob,hob⟩:∃ ob,ob = Obj.cells (bytesRow s (grownCap W s.size 0 e)) e ((bytesRow s (grownCap W s.size 0 e)).size,(bytesRow s (grownCap W s.size 0 e)).size + 1):=⟨_,rfl⟩
 rw [← hob] at hr
 have hB:Below W.heap.size W (W.drew.alloc ob):=⟨rfl,rfl,rfl,by simp,fun k hk=>heap_alloc_old W.drew _ hk⟩
 have hnone:G W.heap.size = none:=by
  cases hG:G W.heap.size with
  | none=>rfl
  | some o=>exact absurd (Array.getElem?_eq_some_iff.1 (C.sim.sub _ o hG)).1 (Nat.lt_irrefl _)
 have hk:=C.sim.keep hB
 have hg:Grow G (upd G W.heap.size (some ob)):=fun b o e=>by
  by_cases hb:b = W.heap.size
  ·subst hb;rw [hnone] at e;cases e
  ·rw [upd_other _ _ hb];exact e
 have hsim:Sim w0 G0 E H (upd G W.heap.size (some ob)) (W.drew.alloc ob):=hk.grow hg (fun b o e=>by
  by_cases hb:b = W.heap.size
  ·subst hb;rw [upd_same] at e;cases e;exact heap_alloc_new W.drew _
  ·rw [upd_other _ _ hb] at e;exact hk.sub b o e) (fun b o e=>by
  by_cases hb:b = W.heap.size
  ·subst hb;exact .inr ⟨.inl C.sim.below.size,fun h1 ob1 e1 e2=>Nat.lt_irrefl _ (OB.blk (C.sim.own h1 ob1 e1) e2).2⟩
  ·rw [upd_other _ _ hb] at e;exact .inl e)
 have hpub:PubRow (upd G W.heap.size (some ob)) (some ⟨W.heap.size,0,none⟩) s.size (grownCap W s.size 0 e) (s.data.toList.map fun b=>.int .u8 (b.toNat:Int)):=by
  refine ⟨grownCap_ge W s.size 0 e,fun _=>rfl,fun j v hj=>?_⟩
  simp only [rd1,ab_some,ao_some,upd_same,Nat.zero_add,hob,bytesRow]
  rw [Array.getElem?_append_left (by
   have:=(List.getElem?_eq_some_iff.1 hj).1
   simpa using this)]
  simpa using hj
 refine wp_of_run (by simp [hop]) (v:=.slice (some ⟨W.heap.size,0,none⟩) s.size (grownCap W s.size 0 e)) (W':=W.drew.alloc ob) (by simp [execOp,hop,rx,hr]) ?_
 obtain ⟨sv',k1,k2,k3⟩:=fork_elim (hd.k (.slice (some ⟨W.heap.size,0,none⟩) s.size (grownCap W s.size 0 e)) _ hg ⟨_,_,rfl,hpub⟩).out (SV.of_rel' E _) (SV.of_ment' M _)
 exact ⟨sv',[],_,E,k1,k2,SV.ment_mono (fun _ h=>.inl h) k3,Agree.refl _ _,hsim,fun h ob e=>⟨.inl (C.mH h ob e).1,OB.ment_mono (fun _ h=>.inl h) (C.mH h ob e).2⟩⟩

end
end Go.Pal

namespace Go.Pal
open Go.RowKit

theorem hasBody_of {P:Program} {f:FuncId} (h:hasBodyB P f = true):HasBody P f:=by
 unfold hasBodyB at h
 split at h
 ·rename_i fn hf
  simp only [Bool.and_eq_true,Bool.not_eq_true'] at h
  exact ⟨fn,hf,h.1,h.2⟩
 ·cases h

def joinHp (G G1:Hp):Hp:=fun b=>match G b with
 | some o=>some o
 | none=>G1 b
theorem joinHp_left (G G1:Hp):Grow G (joinHp G G1):=fun b o h=>by simp [joinHp,h]
theorem joinHp_right {G G1:Hp} {W:World} (h:Sub G W) (h1:Sub G1 W):Grow G1 (joinHp G G1):=fun b o e=>by
 unfold joinHp
 cases hg:G b with
 | none=>exact e
 | some o2=>have a:=h b o2 hg;have c:=h1 b o e;rw [a] at c;exact c
theorem joinHp_sub {G G1:Hp} {W:World} (h:Sub G W) (h1:Sub G1 W):Sub (joinHp G G1) W:=fun b o e=>by
 unfold joinHp at e
 cases hg:G b with
 | none=>rw [hg] at e;exact h1 b o e
 | some o2=>rw [hg] at e;cases e;exact h b o hg

section
variable {P:Program} {o:Oper} {a:Act} {W:World} {rd:Option Nat} {nn:Nat} {Q:Exit→Act→World→Prop}
variable {w0:Root} {G0 Gr G:Hp} {M:Nat→Prop} {E:Nat→Value} {H Hv:Nat→Option OB} {hid:Nat} {K:SV→List (Nat × Option OB)→Hp→Prop} {fr:Nat→SV} {tab:FuncId→Option PSpec}

theorem SV.of_rel (E:Nat→Value) (v:Value):(SV.of v).rel E v:=S1.of_rel E v
theorem SV.of_ment (M:Nat→Prop) (v:Value):(SV.of v).ment M:=S1.of_ment M v
theorem call_sound (C:Ctx w0 G0 Gr G M E H Hv hid fr a W) {g:FuncId} {sh:List Value→List Value} {s:PSpec} (hs:Sound P g sh s) {args:List Value} (hd:denCall hid Gr G K args s) :
  Calls P g (sh args).toArray W fun e W'=>∃ v,e = .returned v∧OpPost w0 G0 M E H hid K v W':=by
 have hsub:Sub Gr W:=C.sim.sub.grow C.gr
 cases s with
 | st pre post=>exact hd.elim
 | seq pre post=>exact hd.elim
 | cut=>exact hd.elim
 | hp=>exact hd.elim
 | fn pre val =>
  refine (hs args Gr W hsub hd.h).mono ?_
  rintro e W' ⟨rfl,hB⟩
  exact ⟨_,rfl,OpPost.quiet (C.sim.keep hB) C.mH hd.k.out (SV.of_rel E _) (SV.of_ment M _)⟩
 | sca pre post =>
  refine (hs args Gr W hsub hd.h).mono ?_
  rintro e W' ⟨v,rfl,hp,hB⟩
  exact ⟨_,rfl,OpPost.quiet (C.sim.keep hB) C.mH (hd.k v hp).out (SV.of_rel E _) (SV.of_ment M _)⟩
 | rel pre post =>
  refine (hs.2 args Gr W hsub hd.h).mono ?_
  rintro e W' ⟨v,G1,rfl,hp,hg,hs1,hn,hB⟩
  have hk:=C.sim.keep hB
  have hgr:=joinHp_right hk.sub hs1
  have hsim:Sim w0 G0 E H (joinHp G G1) W':=hk.grow (joinHp_left G G1) (joinHp_sub hk.sub hs1) (fun b o e=>by
   unfold joinHp at e
   cases hgb:G b with
   | some o'=>rw [hgb] at e;cases e;exact .inl rfl
   | none =>
    rw [hgb] at e
    rcases hn b o e with h | h
    ·have:=C.gr b o h;rw [hgb] at this;cases this
    ·exact .inr ⟨C.sim.below.mine_new h,fun h1 ob e1 e2=>by have:=(OB.blk (C.sim.own h1 ob e1) e2).2;omega⟩)
  exact ⟨v,rfl,OpPost.quiet hsim C.mH (hd.k v _ (joinHp_left G G1) (hs.1 _ _ _ _ hgr hp)).out (SV.of_rel E _) (SV.of_ment M _)⟩
 | own t k pre post =>
  refine (hs.2 args Gr W hsub hd.h).mono ?_
  rintro e W' ⟨v,n,vs,G1,rfl,hp,⟨a0,c0,hv⟩,hown,hone,hnone,hg,hs1,hn,hB⟩
  have hk:=C.sim.keep hB
  have hgr:=joinHp_right hk.sub hs1
  have hown':W'.ownsRow 0 t k v n vs:=⟨hown.1,hown.2.imp id (fun ⟨g,cap,cur,e1,e2,r⟩=>⟨g,cap,cur,e1,Nat.zero_le _,r⟩)⟩
  have hblk:∀ b,blkOf v = some b→W.heap.size≤b:=fun b hb=>by
   rw [blk_own ⟨_,_,_,hv⟩] at hb
   exact (hown.lt b hb).1
  have hnew:=C.sim.new hB (i:=hid) (v:=v) (ob:=.row none n vs t k) C.fresh C.mH ⟨by rw [upd_same];exact hown',hone,fun b hb=>by rw [upd_same] at hb;exact C.sim.below.mine_new (hblk b hb)⟩ rfl hblk
  have hsim:Sim w0 G0 (upd E hid v) (upd H hid (some (.row none n vs t k))) (joinHp G G1) W':=hnew.grow (joinHp_left G G1) (joinHp_sub hk.sub hs1) (fun b o e=>by
   unfold joinHp at e
   cases hgb:G b with
   | some o'=>rw [hgb] at e;cases e;exact .inl rfl
   | none =>
    rw [hgb] at e
    rcases hn b o e with h | h
    ·have:=C.gr b o h;rw [hgb] at this;cases this
    ·refine .inr ⟨C.sim.below.mine_new h,fun h1 ob e1 e2=>?_⟩
     by_cases hh:h1 = hid
     ·subst hh;rw [upd_same] at e2 e1;cases e1;have:=hnone b e2;rw [this] at e;cases e
     ·rw [upd_other _ _ hh] at e1 e2;have:=(OB.blk (C.sim.own h1 ob e1) e2).2;omega)
  refine ⟨v,rfl,_,_,_,upd E hid v,(hd.k n vs _ (joinHp_left G G1) (hs.1 _ _ _ _ _ hgr hp)).out,⟨by rw [upd_same],a0,c0,by rw [upd_same];exact hv⟩, .inr rfl,Agree.upd E v C.fresh,hsim, ?_⟩
  intro k ob e
  simp only [updH] at e
  by_cases hkk:k = hid
  ·subst hkk;rw [upd_same] at e;cases e;exact ⟨.inr rfl,trivial⟩
  ·rw [upd_other _ _ hkk] at e;exact ⟨.inl (C.mH k ob e).1,OB.ment_mono (fun _ h=>.inl h) (C.mH k ob e).2⟩
theorem lend_fact (hsim:Sim w0 G0 E H G W):∀ {hs:List (Nat × LE)},lendOk H hs→∀ p∈hs, ∃ ob,H p.1 = some ob∧ob.pub = none∧ob.has (E p.1) p.2.b∧W.heap[p.2.b]? = some p.2.lb.obj∧p.2.lb.one ∧
  (p.2.w = true→(∀ b,blkOf (E p.1) = some b→ob.has (E p.1) b)∧∀ W' (n:LB),W'.heap[p.2.b]? = some n.obj→n.one→p.2.lb.alike n→(n.ob p.2.b).ok w0 E W' p.1)
 | [],_,p,hp=>by cases hp
 | (h,le) :: r,hl,p,hp=>by
  rcases List.mem_cons.1 hp with rfl | hp
  ·obtain ⟨b,w,lb⟩:=le
   cases lb with
   | cells vs t =>
    obtain ⟨⟨cs,h1,h2⟩,_⟩:=hl
    obtain ⟨b',vs',e1,e2,e3,e4,e5,e6⟩:=hsim.own h _ h1
    have e6:b = b':=e6
    subst e6
    have:=toValsH_rel (fun h ob v e e'=>hsim.name e e') e4 h2
    subst this
    refine ⟨_,h1,rfl,show blkOf (E h) = _ by rw [e1];rfl,e3,e5,fun _=>⟨fun _ h=>h, ?_⟩⟩
    intro W' n hw hone hk
    cases n with
    | cells us t'=>exact ⟨b,us,e1,e2,hw,relL_of E us,hone,rfl⟩
    | map=>exact hk.elim
    | row=>exact hk.elim
   | map es c =>
    obtain ⟨h1,_⟩:=hl
    obtain ⟨b',e1,e2,e3,e6⟩:=hsim.own h _ h1
    have e6:b = b':=e6
    subst e6
    refine ⟨_,h1,rfl,show blkOf (E h) = _ by rw [e1];rfl,e3,trivial,fun _=>⟨fun _ h=>h, ?_⟩⟩
    intro W' n hw hone hk
    cases n with
    | cells us t'=>exact hk.elim
    | map es' c'=>exact ⟨b,e1,e2,hw,rfl⟩
    | row=>exact hk.elim
   | row n0 n cap vs rest t k =>
    obtain ⟨hl,_⟩:=hl
    dsimp only at hl
    split at hl
    ·rename_i p0 hp0
     obtain ⟨k1,k2,k3⟩:=hl
     exact ⟨_,hp0,rfl,⟨_,k2⟩,(hsim.own h _ hp0 _ _ k2).2,k3,fun e=>by rw [k1] at e;cases e⟩
    obtain ⟨vs0,rest0,h1,h2,hone0⟩:=hl
    obtain ⟨f1,f2,f3,f4,f5,f6,f7,f8⟩:=hsim.own h _ h1
    refine ⟨_,h1,rfl,show blkOf (E h) = _ by rw [f1];rfl,by rw [f3,h2];rfl,hone0,fun _=>⟨fun _ h=>h, ?_⟩⟩
    intro W' n' hw hone hk
    cases n' with
    | cells us t'=>exact hk.elim
    | map es' c'=>exact hk.elim
    | row m0 m mcap us urest mt mk =>
     obtain ⟨k1,k2,k3,k4,k5⟩:=hk
     subst k1;subst k2;subst k3;subst k4;subst k5
     obtain ⟨o1,o2,o3,o4,o5,o6⟩:=hone
     have hle:m0 * mk≤m * mk:=Nat.mul_le_mul_right _ o1
     have hle2:m * mk≤mcap * mk:=Nat.mul_le_mul_right _ o4
     refine ⟨f1,f2, ?_, ?_, ?_,f6,f7, ?_⟩
     ·rw [List.take_append_drop];exact hw
     ·rw [List.length_take,List.length_append];omega
     ·rw [List.length_drop,List.length_append,o2,o3,Nat.sub_mul,Nat.sub_mul];omega
     ·intro v hv
      rw [List.take_append_of_le_length (by omega)] at hv
      exact o6 v (List.mem_of_mem_take hv)
  ·exact lend_fact hsim hl.2 p hp

theorem LB.ob_has {n:LB} {b c:Nat} {v:Value}:(n.ob b).has v c↔blkOf v = some c:=by cases n<;>exact Iff.rfl
theorem back_spec {W':World}:∀ {hs:List (Nat × LE)} {ns:List LB} {H:Nat→Option OB},(hs.map (·.1)).Nodup→LentTo W' (hs.map (·.2)) ns→∀ k ob',updH H (backU hs ns) k = some ob' →
  (H k = some ob'∧∀ le,(k,le)∈hs→le.w = false)∨∃ (le:LE) (n:LB),(k,le)∈hs∧le.w = true∧ob' = n.ob le.b∧W'.heap[le.b]? = some n.obj∧n.one∧le.lb.alike n
 | [],ns,H,_,_,k,ob',e=>.inl ⟨e,fun le h=>by cases h⟩
 | (h,le) :: r,ns,H,hnd,ht,k,ob',e=>by
  obtain ⟨hn1,hn2⟩:=List.nodup_cons.1 hnd
  have hnot:∀ le',(h,le') ∉ r:=fun le' hm=>hn1 (List.mem_map.2 ⟨_,hm,rfl⟩)
  simp only [List.map_cons,LentTo] at ht
  simp only [backU] at e
  cases hw:le.w with
  | false =>
   rw [hw] at ht e
   rcases back_spec hn2 ht k ob' e with ⟨h1,h2⟩ | ⟨le',n,h1,h2⟩
   ·refine .inl ⟨h1,fun le' hm=>?_⟩
    rcases List.mem_cons.1 hm with hm | hm
    ·cases hm;exact hw
    ·exact h2 le' hm
   ·exact .inr ⟨le',n,by simp [h1],h2⟩
  | true =>
   rw [hw] at ht e
   cases ns with
   | nil=>exact ht.elim
   | cons n ns =>
    obtain ⟨t1,t2,t4,t3⟩:=ht
    simp only [updH] at e
    rcases back_spec hn2 t3 k ob' e with ⟨h1,h2⟩ | ⟨le',n',h1,h2⟩
    ·by_cases hk:k = h
     ·subst hk
      rw [upd_same] at h1
      cases h1
      exact .inr ⟨le,n,by simp,hw,rfl,t1,t2,t4⟩
     ·rw [upd_other _ _ hk] at h1
      refine .inl ⟨h1,fun le' hm=>?_⟩
      rcases List.mem_cons.1 hm with hm | hm
      ·cases hm;exact absurd rfl hk
      ·exact h2 le' hm
    ·exact .inr ⟨le',n',by simp [h1],h2⟩

theorem lend_sound (hsim:Sim w0 G0 E H G W) {hs:List (Nat × LE)} {ns:List LB} {W':World} (hl:lendOk H hs) (hnd:(hs.map (·.1)).Nodup) (hB:Beneath ⟨W,lentW (hs.map (·.2)),[]⟩ W') (ht:LentTo W' (hs.map (·.2)) ns) :
  Sim w0 G0 E (updH H (backU hs ns)) G W'∧∀ k ob',updH H (backU hs ns) k = some ob'→∃ ob,H k = some ob∧(ob' = ob∨∀ M,ob'.ment M)∧∀ b,ob'.has (E k) b→ob.has (E k) b:=by
 have fact:=lend_fact hsim hl
 have spec:=fun k ob' e=>back_spec hnd ht (H:=H) k ob' e
 -- a block that is written is a lent one
 have hsame:∀ b,b < W.heap.size→(∀ p∈hs,p.2.w = true→p.2.b≠b)→W'.heap[b]? = W.heap[b]?:=fun b hb hn=>hB.block b hb (fun ⟨x,hx,hw,e⟩=>by
  obtain ⟨p,hp,rfl⟩:=List.mem_map.1 hx
  exact hn p hp hw e)
 have base:∀ k ob',updH H (backU hs ns) k = some ob'→∃ ob,H k = some ob∧(ob'.pub = none→ob.pub = none)∧∀ b,ob'.has (E k) b→ob.has (E k) b:=fun k ob' e=>by
  rcases spec k ob' e with ⟨h1,_⟩ | ⟨le,n,hm,hw,rfl,_⟩
  ·exact ⟨ob',h1,id,fun _ h=>h⟩
  ·obtain ⟨ob,f1,f2,_,_,_,f6⟩:=fact _ hm
   exact ⟨ob,f1,fun _=>f2,fun b hb=>(f6 hw).1 b (LB.ob_has.1 hb)⟩
 have kept:∀ k ob,H k = some ob→(∀ le,(k,le)∈hs→le.w = false)→∀ b,ob.has (E k) b→W'.heap[b]? = W.heap[b]?:=fun k ob hk hno b hb=>by
  refine hsame b (OB.blk (hsim.own k ob hk) hb).2 (fun p hp hw e=>?_)
  obtain ⟨ob2,f1,f2,f3,_⟩:=fact p hp
  have:=hsim.inj p.1 ob2 k ob b f1 hk f2 (e ▸ f3) hb
  have h2:=hno p.2 (by rw [← this];exact hp)
  rw [hw] at h2;cases h2
 refine ⟨⟨?_, ?_,hsim.newG, ?_, ?_, ?_, ?_⟩, ?_⟩
 ·refine ⟨hB.os.trans hsim.below.os,hB.tape.trans hsim.below.tape,hB.output.trans hsim.below.output,Nat.le_trans hsim.below.size hB.size,fun k hk hn=>?_⟩
  refine (hsame k (Nat.lt_of_lt_of_le hk hsim.below.size) (fun p hp hw e=>?_)).trans (hsim.below.block k hk hn)
  obtain ⟨ob,f1,f2,f3,_⟩:=fact p hp
  rcases (OB.blk (hsim.own _ _ f1) (e ▸ f3)).1 with h | h
  ·omega
  ·exact hn h
 ·intro b o e
  have h1:=hsim.sub b o e
  rw [hsame b (Array.getElem?_eq_some_iff.1 h1).1 (fun p hp hw e2=>?_)]
  ·exact h1
  ·obtain ⟨ob,f1,f2,f3,_⟩:=fact p hp
   have:=hsim.priv _ _ f1 f2 b (e2 ▸ f3)
   rw [this] at e;cases e
 ·intro k ob' e
  rcases spec k ob' e with ⟨h1,h2⟩ | ⟨le,n,hm,hw,rfl,t1,t2,t4⟩
  ·exact OB.ok_kept (hsim.own k ob' h1) (kept k ob' h1 h2)
  ·obtain ⟨ob,f1,f2,f3,f4,f5,f6⟩:=fact _ hm
   exact (f6 hw).2 W' n t1 t2 t4
 ·intro k ob' v e e2
  rcases spec k ob' e with ⟨h1,h2⟩ | ⟨le,n,hm,hw,rfl,t1,t2,t4⟩
  ·obtain ⟨e3,e4⟩:=hsim.pub k ob' v h1 e2
   exact ⟨e3,fun b hb=>by rw [kept k ob' h1 h2 b ((OB.has_pub e2).2 (by rw [e3];exact hb))];exact e4 b hb⟩
  ·cases n<;>cases e2
 ·intro k ob' e e2 b hb
  obtain ⟨ob,h1,h2,h3⟩:=base k ob' e
  exact hsim.priv k ob h1 (h2 e2) b (h3 b hb)
 ·intro k ob' k' ob2 b e e2 e3 e4 e5
  obtain ⟨ob,h1,h2,h4⟩:=base k ob' e
  obtain ⟨ob3,h3,_,h5⟩:=base k' ob2 e2
  exact hsim.inj k ob k' ob3 b h1 h3 (h2 e3) (h4 b e4) (h5 b e5)
 ·intro k ob' e
  rcases spec k ob' e with ⟨h1,_⟩ | ⟨le,n,hm,hw,rfl,_⟩
  ·exact ⟨ob',h1, .inl rfl,fun _ h=>h⟩
  ·obtain ⟨ob,f1,_,_,_,_,f6⟩:=fact _ hm
   refine ⟨ob,f1, .inr fun M=>?_,fun b hb=>(f6 hw).1 b (LB.ob_has.1 hb)⟩
   cases n with
   | cells vs t=>intro c hc;obtain ⟨v,_,rfl⟩:=List.mem_map.1 hc;exact S1.of_ment M v
   | map=>trivial
   | row=>trivial

theorem callv_sound (C:Ctx w0 G0 Gr G M E H Hv hid fr a W) {g:FuncId} {sh:List Value→List Value} {s:PSpec} (hs:Sound P g sh s) {args:List Value} (hd:denCallv Hv hid Gr G K args s) :
  Calls P g (sh args).toArray W fun e W'=>∃ v,e = .returned v∧OpPost w0 G0 M E H hid K v W':=by
 cases s with
 | fn pre val=>exact call_sound C hs hd
 | sca pre post=>exact call_sound C hs hd
 | rel pre post=>exact call_sound C hs hd
 | own t k pre post=>exact call_sound C hs hd
 | seq pre post=>exact hd.elim
 | cut=>exact hd.elim
 | hp pre post =>
  have hsub:Sub Gr W:=C.sim.sub.grow C.gr
  simp only [denCallv] at hd
  split at hd
  case h_2=>exact hd.elim
  rename_i p hH
  have hH':=C.view _ _ hH
  have hok:=C.sim.own _ _ hH'
  refine (hs.2 args p Gr W hsub (fun b o e=>⟨(hok b o e).2,C.disj hH b o e⟩) hd.h).mono ?_
  rintro e W' ⟨v,p',G1,rfl,hp,hp',hg,hs1,hn,hB⟩
  have hlow:∀ h ob b,H h = some ob→ob.has (E h) b→b < W.heap.size:=fun h ob b e1 e2=>(OB.blk (C.sim.own h ob e1) e2).2
  have hsubG:Sub G W':=fun b o e=>by
   have h1:=C.sim.sub b o e
   rw [hB.block b (Array.getElem?_eq_some_iff.1 h1).1 (fun ⟨o',q⟩=>by have:=C.sim.priv 0 _ hH' rfl b ⟨o',q⟩;rw [e] at this;cases this)]
   exact h1
  have hsim:=C.sim.turn (p':=p') (G':=joinHp G G1) hH' hB (fun b o e=>by
   obtain ⟨q1,q2,q3⟩:=hp' b o e
   refine ⟨q1, ?_,q3⟩
   have:G b = none:=by
    rcases q3 with ⟨o',q⟩ | q
    ·exact C.sim.priv 0 _ hH' rfl b ⟨o',q⟩
    ·cases hG:G b with
     | none=>rfl
     | some o'=>have:=(Array.getElem?_eq_some_iff.1 (C.sim.sub b o' hG)).1;omega
   simp [joinHp,this,q2]) (joinHp_left G G1) (joinHp_sub hsubG hs1) (fun b o e=>by
    unfold joinHp at e
    cases hgb:G b with
    | some o'=>rw [hgb] at e;cases e;exact .inl rfl
    | none =>
     rw [hgb] at e
     rcases hn b o e with h | h
     ·have:=C.gr b o h;rw [hgb] at this;cases this
     ·exact .inr h) hlow (fun h ob W2 e1 e2 e3=>OB.ok_kept e2 e3) (fun b o e=>(hok b o e).1) (fun v b ob u e=>OB.has_pub e)
  have hgr:=joinHp_right hsubG hs1
  obtain ⟨sv',hk',hr',hm'⟩:=fork_elim (hd.k v p' _ (joinHp_left G G1) (hs.1 _ _ _ _ _ _ hgr hp)).out (SV.of_rel E v) (SV.of_ment M v)
  refine ⟨v,rfl,sv',_,_,E,hk',hr',SV.ment_mono (fun _ h=>.inl h) hm',Agree.refl _ _,hsim, ?_⟩
  intro k ob' e1
  by_cases hk0:k = 0
  ·subst hk0
   have e1:some (OB.heap p') = some ob':=e1
   cases e1;exact ⟨.inl (C.mH _ _ hH').1,trivial⟩
  ·have e1:upd H 0 (some (OB.heap p')) k = some ob':=e1
   rw [upd_other _ _ hk0] at e1
   exact ⟨.inl (C.mH k ob' e1).1,OB.ment_mono (fun _ h=>.inl h) (C.mH k ob' e1).2⟩
 | st pre post =>
  obtain ⟨ls,hl,hnd,hpre,hk⟩:=hd
  have hl':lendOk H ls:=by
   clear hnd hpre hk
   have hv:∀ cs vs,toValsH Hv cs = some vs→toValsH H cs = some vs:=by
    intro cs
    induction cs with
    | nil=>intro vs h;exact h
    | cons c cs ih =>
     intro vs h
     simp only [toValsH] at h ⊢
     split at h
     ·rename_i u hu
      split at h
      ·rename_i us hus
       have:c.toValH H = some u:=by
        cases c<;>simp only [S1.toValH] at hu ⊢<;>first | exact hu | skip
        all_goals
         split at hu<;>first | (cases hu;done) | skip
         all_goals (rename_i e;rw [C.view _ _ e];exact hu)
       rw [this,ih us hus]
       exact h
      ·cases h
     ·cases h
   induction ls with
   | nil=>trivial
   | cons p r ih =>
    obtain ⟨h,⟨b,w,lb⟩⟩:=p
    refine ⟨?_,ih hl.2⟩
    cases lb with
    | cells vs t=>obtain ⟨cs,e1,e2⟩:=hl.1;exact ⟨cs,C.view _ _ e1,hv _ _ e2⟩
    | map es c=>exact C.view _ _ hl.1
    | row n0 n cap vs rest t k =>
     have hl:=hl.1
     dsimp only at hl ⊢
     split at hl
     ·rename_i p0 hp0
      rw [C.view _ _ hp0]
      exact hl
     ·obtain ⟨vs0,rest0,e1,e2⟩:=hl
      rw [C.view _ _ e1]
      exact ⟨vs0,rest0,rfl,e2⟩
  have hsub:Sub Gr W:=C.sim.sub.grow C.gr
  have fact:=lend_fact C.sim hl'
  have hpv:∀ x∈ls.map (·.2),W.heap[x.b]? = some x.lb.obj∧Gr x.b = none∧x.lb.one:=by
   intro x hx
   obtain ⟨p,hp,rfl⟩:=List.mem_map.1 hx
   obtain ⟨ob,f1,f2,f3,f4,f5,_⟩:=fact p hp
   refine ⟨f4, ?_,f5⟩
   cases hg:Gr p.2.b with
   | none=>rfl
   | some o =>
    have:=C.sim.priv _ _ f1 f2 p.2.b f3
    rw [C.gr _ _ hg] at this;cases this
  have hbn:((ls.map (·.2)).map (·.b)).Nodup:=by
   rw [List.map_map]
   unfold List.Nodup at hnd ⊢
   rw [List.pairwise_map] at hnd ⊢
   refine hnd.imp_of_mem ?_
   intro p q hp hq hne e
   obtain ⟨ob,f1,f2,f3,_⟩:=fact p hp
   obtain ⟨ob2,g1,g2,g3,_⟩:=fact q hq
   have e:p.2.b = q.2.b:=e
   exact hne (C.sim.inj p.1 ob q.1 ob2 p.2.b f1 g1 f2 f3 (e ▸ g3))
  refine (hs.2 args (ls.map (·.2)) Gr W hsub hpv hbn hpre).mono ?_
  rintro e W' ⟨v,ns,G1,rfl,hp,hto,hg,hs1,hn,hB⟩
  obtain ⟨hsim2,hob⟩:=lend_sound C.sim hl' hnd hB hto
  have hgr:=joinHp_right hsim2.sub hs1
  have hlow:∀ k ob' b,updH H (backU ls ns) k = some ob'→ob'.has (E k) b→b < W.heap.size:=fun k ob' b e1 e2=>by
   obtain ⟨ob,h1,_,h3⟩:=hob k ob' e1
   exact (OB.blk (C.sim.own k ob h1) (h3 b e2)).2
  have hsim:Sim w0 G0 E (updH H (backU ls ns)) (joinHp G G1) W':=hsim2.grow (joinHp_left G G1) (joinHp_sub hsim2.sub hs1) (fun b o e=>by
   unfold joinHp at e
   cases hgb:G b with
   | some o'=>rw [hgb] at e;cases e;exact .inl rfl
   | none =>
    rw [hgb] at e
    rcases hn b o e with h | h
    ·have:=C.gr b o h;rw [hgb] at this;cases this
    ·exact .inr ⟨C.sim.below.mine_new h,fun h1 ob e1 e2=>by have:=hlow h1 ob b e1 e2;omega⟩)
  obtain ⟨sv',hk',hr',hm'⟩:=fork_elim (hk v ns _ (joinHp_left G G1) (hs.1 _ _ _ _ _ _ hgr hp)).out (SV.of_rel E v) (SV.of_ment M v)
  refine ⟨v,rfl,sv',_,_,E,hk',hr',SV.ment_mono (fun _ h=>.inl h) hm',Agree.refl _ _,hsim, ?_⟩
  intro k ob' e1
  obtain ⟨ob,h1,h2,_⟩:=hob k ob' e1
  refine ⟨.inl (C.mH k ob h1).1, ?_⟩
  rcases h2 with rfl | h2
  ·exact OB.ment_mono (fun _ h=>.inl h) (C.mH k _ h1).2
  ·exact h2 _

theorem run_call_fn {f:FuncId} {args:Array Operand} {ts:Array TypeId} {x:Operand} {first cap:Array Value} (hb:HasBody P f) (hx:a.eval x = .func (.func f) first cap) (hop:o.op = .call { callee:=.value x,args:=args,argTypes:=ts }) :
  (execOp a.eval o).run P W = .ok (.enter f (first++args.map a.eval++cap)) W:=by
 obtain ⟨fn,hf,hb,hn⟩:=hb
 have hn' : ¬ fn.name = "runtime.NumGoroutine" := by simpa using hn
 have hb':fn.body≠none:=by intro e;rw [e] at hb;cases hb
 simp [execOp,hop,resolve,hx,Deferred.ofValue,invoke,callFunc,hf,hb',hn']

def joinO (G:Hp):List (Nat × Obj)→Hp
 | [],b=>G b
 | x :: r,b=>cond (Nat.beq b x.1) (some x.2) (joinO G r b)
theorem joinO_sub {G:Hp} {W:World} (h:Sub G W):∀ {os:List (Nat × Obj)},(∀ x∈os,W.heap[x.1]? = some x.2)→Sub (joinO G os) W
 | [],_=>h
 | x :: r,hl=>fun b o e=>by
  simp only [joinO] at e
  cases hb:Nat.beq b x.1 with
  | true =>
   rw [hb] at e
   have:=Nat.eq_of_beq_eq_true hb
   subst this
   cases e
   exact hl x (by simp)
  | false=>rw [hb] at e;exact joinO_sub h (fun y hy=>hl y (by simp [hy])) b o e
theorem joinO_grow {G:Hp}:∀ {os:List (Nat × Obj)},(∀ x∈os,G x.1 = none)→Grow G (joinO G os)
 | [],_=>Grow.refl _
 | x :: r,hl=>fun b o e=>by
  simp only [joinO]
  cases hb:Nat.beq b x.1 with
  | true =>
   have:=Nat.eq_of_beq_eq_true hb
   subst this
   rw [hl x (by simp)] at e;cases e
  | false=>exact joinO_grow (fun y hy=>hl y (by simp [hy])) b o e
theorem joinO_at {G:Hp} {W:World}:∀ {os:List (Nat × Obj)},(∀ x∈os,W.heap[x.1]? = some x.2)→∀ x∈os,joinO G os x.1 = some x.2
 | [],_,x,hx=>by cases hx
 | y :: r,hl,x,hx=>by
  simp only [joinO]
  cases hb:Nat.beq x.1 y.1 with
  | true =>
   have e:=Nat.eq_of_beq_eq_true hb
   have h1:=hl y (by simp)
   have h2:=hl x hx
   rw [e,h1] at h2
   exact h2
  | false =>
   rcases List.mem_cons.1 hx with rfl | hx
   ·rw [Nat.beq_refl] at hb;cases hb
   ·exact joinO_at (fun z hz=>hl z (by simp [hz])) x hx
theorem call_soundO (C:Ctx w0 G0 Gr G M E H Hv hid fr a W) {g:FuncId} {sh:List Value→List Value} {s:PSpec} (hs:Sound P g sh s) {args:List Value} {os:List (Nat × Obj)} (ho:∀ x∈os,W.heap[x.1]? = some x.2∧Gr x.1 = none) (hd:denCall hid Gr G K args (s.lend os)) :
  Calls P g (sh args).toArray W fun e W'=>∃ v,e = .returned v∧OpPost w0 G0 M E H hid K v W':=by
 cases os with
 | nil=>exact call_sound C hs hd
 | cons o r =>
  have hsub:Sub Gr W:=C.sim.sub.grow C.gr
  have hsub1:Sub (joinO Gr (o :: r)) W:=joinO_sub hsub fun x hx=>(ho x hx).1
  have hg1:Grow Gr (joinO Gr (o :: r)):=joinO_grow fun x hx=>(ho x hx).2
  have hat:=joinO_at (G:=Gr) (W:=W) (os:=o :: r) fun x hx=>(ho x hx).1
  cases s with
  | fn pre val =>
   refine (hs args _ W hsub1 (hd.h _ hg1 hat)).mono ?_
   rintro e W' ⟨rfl,hB⟩
   exact ⟨_,rfl,OpPost.quiet (C.sim.keep hB) C.mH hd.k.out (SV.of_rel E _) (SV.of_ment M _)⟩
  | sca pre post =>
   refine (hs args _ W hsub1 (hd.h _ hg1 hat)).mono ?_
   rintro e W' ⟨v,rfl,hp,hB⟩
   exact ⟨_,rfl,OpPost.quiet (C.sim.keep hB) C.mH (hd.k v ⟨_,hg1,hat,hp⟩).out (SV.of_rel E _) (SV.of_ment M _)⟩
  | rel=>exact call_sound C hs hd
  | own=>exact call_sound C hs hd
  | st=>exact call_sound C hs hd
  | seq=>exact call_sound C hs hd
  | cut=>exact call_sound C hs hd
  | hp=>exact call_sound C hs hd
theorem objsL_spec (hv:∀ h ob,Hv h = some ob→H h = some ob) (hs:Sim w0 G0 E H G W):∀ {l:List SV}, ∀ x∈objsL Hv l,W.heap[x.1]? = some x.2∧G x.1 = none
 | [],x,hx=>by cases hx
 | sv :: r,x,hx=>by
  have key:∀ h b n cap vs rest t k,Hv h = some (.xrow b n cap vs rest t k)→W.heap[b]? = some (.cells (vs++rest).toArray t (0,0))∧G b = none:=fun h b n cap vs rest t k e=>by
   have e':=hv h _ e
   obtain ⟨e1,_,e3,_⟩:=hs.own h _ e'
   exact ⟨e3,hs.priv h _ e' rfl b (show blkOf (E h) = some b by rw [e1];rfl)⟩
  simp only [objsL] at hx
  split at hx
  ·split at hx
   ·rcases List.mem_cons.1 hx with rfl | hx
    ·exact key _ _ _ _ _ _ _ _ ‹_›
    ·exact objsL_spec hv hs x hx
   ·exact objsL_spec hv hs x hx
  ·split at hx
   ·rcases List.mem_cons.1 hx with rfl | hx
    ·exact key _ _ _ _ _ _ _ _ ‹_›
    ·exact objsL_spec hv hs x hx
   ·exact objsL_spec hv hs x hx
  ·exact objsL_spec hv hs x hx
def overG (p G:Hp):Hp:=fun b=>match p b with
 | some o=>some o
 | none=>G b
theorem over_G {p G:Hp} (d:Disj p G):Over p G (overG p G):=by
 refine ⟨fun b o e=>?_,fun b o e=>by simp [overG,e],fun b o e=>?_⟩
 ·unfold overG
  cases hp:p b with
  | none=>exact e
  | some o'=>rw [d b o' hp] at e;cases e
 ·unfold overG at e
  cases hp:p b with
  | none=>rw [hp] at e;exact .inl e
  | some o'=>rw [hp] at e;cases e;exact .inr rfl
theorem objsL_own (hv:∀ h ob,Hv h = some ob→H h = some ob) (hs:Sim w0 G0 E H G W):∀ {l:List SV}, ∀ x∈objsL Hv l, ∃ h ob,H h = some ob∧ob.pub = none∧ob.has (E h) x.1∧(H 0 = some ob→True)∧(∀ p,ob≠.heap p)
 | [],x,hx=>by cases hx
 | sv :: r,x,hx=>by
  have key:∀ h b n cap vs rest t k,Hv h = some (.xrow b n cap vs rest t k)→∃ h ob,H h = some ob∧ob.pub = none∧ob.has (E h) b∧(H 0 = some ob→True)∧(∀ p,ob≠.heap p):=fun h b n cap vs rest t k e=>by
   have e':=hv h _ e
   obtain ⟨e1,_⟩:=hs.own h _ e'
   exact ⟨h,_,e',rfl,show blkOf (E h) = some b by rw [e1];rfl,fun _=>trivial,fun p e=>by cases e⟩
  simp only [objsL] at hx
  split at hx
  ·split at hx
   ·rcases List.mem_cons.1 hx with rfl | hx
    ·exact key _ _ _ _ _ _ _ _ ‹_›
    ·exact objsL_own hv hs x hx
   ·exact objsL_own hv hs x hx
  ·split at hx
   ·rcases List.mem_cons.1 hx with rfl | hx
    ·exact key _ _ _ _ _ _ _ _ ‹_›
    ·exact objsL_own hv hs x hx
   ·exact objsL_own hv hs x hx
  ·exact objsL_own hv hs x hx
theorem op_call (C:Ctx w0 G0 Gr G M E H Hv hid fr a W) (T:Tab P) {f:FuncId} {args:Array Operand} {ts:Array TypeId} {ys:List Opd} (hys:compOpds args.toList = some ys) (hop:o.op = .call { callee:=.value (.func f),args:=args,argTypes:=ts })
  (hd:(ev T.get fr Hv hid (.call f ys)).den P hid Gr G K):Goal P o a W rd nn Q w0 G0 M E H hid K:=by
 simp only [ev] at hd
 split at hd
 case h_2=>exact hd.elim
 rename_i vs hvs
 split at hd
 case h_2=>exact hd.elim
 rename_i s hs
 obtain ⟨h1,hb⟩:=T.ok f s hs
 have hargs:=opds_rel C.rfr (fun h ob v e e'=>C.sim.name (C.view h ob e) e') hys hvs
 have hrun:=run_call_fn (P:=P) (W:=W) (o:=o) (a:=a) (x:=.func f) (first:=#[]) (cap:=#[]) hb rfl hop
 have e1:(#[]++args.map a.eval++#[]:Array Value) = (id vs).toArray:=by
  rw [← hargs];apply Array.ext';simp
 rw [e1] at hrun
 have old:denCall hid Gr G K vs (s.lend (objsL Hv (evArgs fr ys)))→Calls P f (id vs).toArray W fun e W'=>∃ v,e = .returned v∧OpPost w0 G0 M E H hid K v W':=fun hd=>call_soundO C h1 (fun x hx=>by
  obtain ⟨k1,k2⟩:=objsL_spec (fun h ob e=>C.view h ob e) C.sim x hx
  refine ⟨k1, ?_⟩
  cases hg:Gr x.1 with
  | none=>rfl
  | some o=>have:=C.gr _ o hg;rw [k2] at this;cases this) hd
 refine wp_of_enter (by simp [hop]) hrun ?_
 have hd:denCall hid Gr G K vs ((s.lend (objsL Hv (evArgs fr ys))).lendH Hv):=hd
 unfold PSpec.lendH at hd
 split at hd
 case h_2=>exact old hd
 rename_i p hH
 have hok:=C.sim.own 0 _ (C.view _ _ hH)
 have dj:=C.disj hH
 have hov:Over p Gr (overG p Gr):=over_G dj
 have hsub:Sub (overG p Gr) W:=fun b o e=>(hov.2.2 b o e).elim (fun e=>C.sim.sub b o (C.gr b o e)) (fun e=>(hok b o e).2)
 -- own rows that are lent beside it
 have hos:∀ x∈objsL Hv (evArgs fr ys),W.heap[x.1]? = some x.2∧(overG p Gr) x.1 = none:=fun x hx=>by
  obtain ⟨k1,k2⟩:=objsL_spec (fun h ob e=>C.view h ob e) C.sim x hx
  refine ⟨k1, ?_⟩
  cases hg:(overG p Gr) x.1 with
  | none=>rfl
  | some o =>
   rcases hov.2.2 _ _ hg with h | h
   ·have:=C.gr _ o h;rw [k2] at this;cases this
   ·obtain ⟨h2,ob,e1,e2,e3,_,e4⟩:=objsL_own (fun h ob e=>C.view h ob e) C.sim x hx
    have:=C.sim.inj 0 _ h2 ob x.1 (C.view _ _ hH) e1 rfl ⟨o,h⟩ e3
    subst this
    have e5:=C.view _ _ hH
    rw [e1] at e5;cases e5
    exact absurd rfl (e4 p)
 generalize hgen:objsL Hv (evArgs fr ys) = os at hd old hos
 cases s with
 | fn pre val =>
  cases os with
  | nil =>
   refine (h1 vs _ W hsub (hd.h _ hov)).mono ?_
   rintro e W' ⟨rfl,hB⟩
   exact ⟨_,rfl,OpPost.quiet (C.sim.keep hB) C.mH hd.k.out (SV.of_rel E _) (SV.of_ment M _)⟩
  | cons o r =>
   refine (h1 vs _ W (joinO_sub hsub fun x hx=>(hos x hx).1) (hd.h _ hov _ (joinO_grow fun x hx=>(hos x hx).2) (joinO_at (W:=W) fun x hx=>(hos x hx).1))).mono ?_
   rintro e W' ⟨rfl,hB⟩
   exact ⟨_,rfl,OpPost.quiet (C.sim.keep hB) C.mH hd.k.out (SV.of_rel E _) (SV.of_ment M _)⟩
 | sca pre post =>
  cases os with
  | nil =>
   refine (h1 vs _ W hsub (hd.h _ hov)).mono ?_
   rintro e W' ⟨v,rfl,hp,hB⟩
   exact ⟨_,rfl,OpPost.quiet (C.sim.keep hB) C.mH (hd.k v ⟨_,hov,hp⟩).out (SV.of_rel E _) (SV.of_ment M _)⟩
  | cons o r =>
   refine (h1 vs _ W (joinO_sub hsub fun x hx=>(hos x hx).1) (hd.h _ hov _ (joinO_grow fun x hx=>(hos x hx).2) (joinO_at (W:=W) fun x hx=>(hos x hx).1))).mono ?_
   rintro e W' ⟨v,rfl,hp,hB⟩
   exact ⟨_,rfl,OpPost.quiet (C.sim.keep hB) C.mH (hd.k v ⟨_,hov,_,joinO_grow fun x hx=>(hos x hx).2,joinO_at (W:=W) fun x hx=>(hos x hx).1,hp⟩).out (SV.of_rel E _) (SV.of_ment M _)⟩
 | rel=>cases os<;>exact old hd
 | own=>cases os<;>exact old hd
 | st=>cases os<;>exact old hd
 | seq=>cases os<;>exact old hd
 | cut=>cases os<;>exact old hd
 | hp pre post =>
  have hd:denCall hid Gr G K vs (.rel (fun args G=>pre args p G∧∀ v p' G',post args p v p' G'→p' = p) (fun args v G'=>post args p v p G')):=by cases os<;>exact hd
  obtain ⟨hpre,hsame⟩:=hd.h
  refine (h1.2 vs p Gr W (C.sim.sub.grow C.gr) (fun b o e=>⟨(hok b o e).2,dj b o e⟩) hpre).mono ?_
  rintro e W' ⟨v,p',G1,rfl,hp,hown,hg,hs1,hn,hB⟩
  obtain rfl:=hsame _ _ _ hp
  have hB':Below W.heap.size W W':=⟨hB.os,hB.tape,hB.output,hB.size,fun k hk=>by
   cases hpk:p' k with
   | some o=>rw [(hown k o hpk).1,(hok k o hpk).2]
   | none=>exact hB.block k hk fun ⟨o,h⟩=>by rw [hpk] at h;cases h⟩
  have hk:=C.sim.keep hB'
  have hgr:=joinHp_right hk.sub hs1
  have hsim:Sim w0 G0 E H (joinHp G G1) W':=hk.grow (joinHp_left G G1) (joinHp_sub hk.sub hs1) (fun b o e=>by
   unfold joinHp at e
   cases hgb:G b with
   | some o'=>rw [hgb] at e;cases e;exact .inl rfl
   | none =>
    rw [hgb] at e
    rcases hn b o e with h | ⟨o',h⟩ | h
    ·have:=C.gr b o h;rw [hgb] at this;cases this
    ·rw [(hown b o' h).2.1] at e;cases e
    ·exact .inr ⟨C.sim.below.mine_new h,fun h1 ob e1 e2=>by have:=(OB.blk (C.sim.own h1 ob e1) e2).2;omega⟩)
  exact ⟨v,rfl,OpPost.quiet hsim C.mH (hd.k v _ (joinHp_left G G1) (h1.1 _ _ _ _ _ _ hgr hp)).out (SV.of_rel E _) (SV.of_ment M _)⟩

theorem op_cut (C:Ctx w0 G0 Gr G M E H Hv hid fr a W) (T:Tab P) {f:FuncId} {args:Array Operand} {ts:Array TypeId} {y:Opd} {ys:List Opd} (hys:compOpds args.toList = some (y :: ys)) (hop:o.op = .call { callee:=.value (.func f),args:=args,argTypes:=ts })
  (hd:(ev T.get fr Hv hid (.cut f y ys)).den P hid Gr G K):Goal P o a W rd nn Q w0 G0 M E H hid K:=by
 obtain ⟨x,xs,hxs,hx,hys'⟩:∃ x xs,args.toList = x :: xs∧compOpd x = some y∧compOpds xs = some ys:=by
  cases hl:args.toList with
  | nil=>rw [hl] at hys;cases hys
  | cons x xs =>
   rw [hl] at hys
   simp only [compOpds] at hys
   split at hys
   ·cases hys;exact ⟨x,xs,rfl, ‹_›, ‹_›⟩
   ·cases hys
 have rs:=opd_rel C.rfr hx
 simp only [ev] at hd
 split at hd
 case h_2=>exact hd.elim
 rename_i h n es
 rw [es] at rs
 split at hd
 case h_2=>exact hd.elim
 rename_i n' vs t k hH
 split at hd
 case h_2=>exact hd.elim
 rename_i us hus
 split at hd
 case h_2=>exact hd.elim
 rename_i t' k' pre res hs
 cases hc:Nat.beq t' t && Nat.beq k' k with
 | false=>rw [hc] at hd;exact hd.elim
 | true =>
  rw [hc] at hd
  rw [Bool.and_eq_true] at hc
  have ht':=Nat.eq_of_beq_eq_true hc.1
  have hk':=Nat.eq_of_beq_eq_true hc.2
  subst ht' hk'
  obtain ⟨⟨rfl,hpre⟩,⟨hd⟩⟩:=hd
  have hH':=C.view _ _ hH
  obtain ⟨hown,h1,hmine⟩:=C.sim.own _ _ hH'
  obtain ⟨hsnd,hb⟩:=T.ok f _ hs
  have hargs:=opds_rel (a:=a) C.rfr (fun h ob v e e'=>C.sim.name (C.view h ob e) e') hys' hus
  have hrun:=run_call_fn (P:=P) (W:=W) (o:=o) (a:=a) (x:=.func f) (first:=#[]) (cap:=#[]) hb rfl hop
  have e1:(#[]++args.map a.eval++#[]:Array Value) = (id (E h :: us)).toArray:=by
   apply Array.ext'
   have:a.eval x = E h:=rs.1
   simp [hxs,hargs,this]
  rw [e1] at hrun
  refine wp_of_enter (by simp [hop]) hrun ((hsnd (E h) n' vs us W hown h1 hpre).mono ?_)
  rintro e W' ⟨v',rfl,ho,hone,hg,hnw⟩
  refine ⟨v',rfl, ?_⟩
  have sl:∀ {W':World} {v':Value} {n:Nat} {vs:List Value},W'.ownsRow 0 t' k' v' n vs→∃ a c,v' = .slice a n c:=fun {W' v' n vs} ho=>by
   rcases ho.2 with ⟨rfl,rfl⟩ | ⟨g,cap,cur,rfl,_⟩
   ·exact ⟨_,_,rfl⟩
   ·exact ⟨_,_,rfl⟩
  obtain ⟨a',c',ev'⟩:=sl ho
  have hbl:blkOf v' = v'.ownBlock:=blk_own ⟨_,_,_,ev'⟩
  obtain ⟨a0,c0,e0⟩:=sl hown
  have hbl0:blkOf (E h) = (E h).ownBlock:=blk_own ⟨_,_,_,e0⟩
  have hH1:∀ k ob,upd H h none k = some ob→H k = some ob∧k≠h:=fun k ob e=>by
   by_cases hkh:k = h
   ·subst hkh;rw [upd_same] at e;cases e
   ·rw [upd_other _ _ hkh] at e;exact ⟨e,hkh⟩
  have hs1:Sim w0 G0 E (upd H h none) G W:=C.sim.drop (fun k ob e=>(hH1 k ob e).1)
  have hm1:∀ k ob,upd H h none k = some ob→M k∧ob.ment M:=fun k ob e=>C.mH k ob (hH1 k ob e).1
  have key:=hs1.new' (E h).ownBlock hg (fun r er=>⟨(OB.blk (C.sim.own h _ hH') (hbl0.trans er)).1,C.sim.priv h _ hH' rfl r (hbl0.trans er),fun k ob e eb=>(hH1 k ob e).2 (C.sim.inj h _ k ob r hH' (hH1 k ob e).1 rfl (hbl0.trans er) eb).symm⟩)
   (i:=hid) (v:=v') (ob:=.row none (res n' vs us).1 (res n' vs us).2 t' k') C.fresh hm1 ⟨by rw [upd_same];exact ho,hone,fun b hb=>by
    rw [upd_same] at hb
    rcases hnw b (hbl ▸ hb) with h2 | h2
    ·exact C.sim.below.mine_new h2
    ·exact hmine b (hbl0.trans h2)⟩ rfl (fun b hb=>hnw b (hbl ▸ hb))
  have hrow:upd (upd H h none) hid (some (OB.row none (res n' vs us).1 (res n' vs us).2 t' k')) hid = some (.row none (res n' vs us).1 (res n' vs us).2 t' k'):=upd_same _ _ _
  obtain ⟨hown2,hone2,hmine2⟩:=key.own hid _ hrow
  obtain ⟨b,hb⟩:∃ b, ∀ c,blkOf (upd E hid v' hid) = some c→c = b:=by
   cases hbl:blkOf (upd E hid v' hid) with
   | none=>exact ⟨0,fun c e=>by cases e⟩
   | some b=>exact ⟨b,fun c e=>by cases e;rfl⟩
  obtain ⟨G2,g1,g2,g3⟩:=key.publish (ob':=.row (some (upd E hid v' hid)) (res n' vs us).1 (res n' vs us).2 t' k') hrow rfl hb ⟨hown2,hone2,hmine2⟩ rfl
  have hE:upd E hid v' hid = .slice a' (res n' vs us).1 c':=by rw [upd_same];exact ev'
  have hpub:PubRow G2 a' (res n' vs us).1 c' (res n' vs us).2:=by
   rcases hown2.2 with ⟨e',hn⟩ | ⟨g,cap,cur,e',_,hw,hnc,_,hsz,htake⟩
   ·have hv0:(res n' vs us).2 = []:=List.eq_nil_of_length_eq_zero (by rw [hown2.1,hn,Nat.zero_mul])
    exact ⟨by omega,fun h=>absurd hn h,fun j v hj=>by rw [hv0] at hj;simp at hj⟩
   ·rw [hE] at e'
    injection e' with e1 e2 e3
    subst e1 e3
    refine ⟨hnc,fun _=>rfl,fun j v hj=>?_⟩
    have:=g2 g (by rw [hE];rfl)
    rw [hw] at this
    simp only [rd1,ab_some,ao_some,this,Nat.zero_add]
    rw [← htake,List.getElem?_take] at hj
    split at hj
    ·simpa using hj
    ·cases hj
  refine ⟨_,_,G2,upd E hid v',(hd.k a' c' G2 g1 hpub).out,ev',trivial,Agree.upd E v' C.fresh, ?_, ?_⟩
  ·refine g3.drop (fun i ob e=>?_)
   simp only [updH] at e
   have hne:i≠hid:=fun e'=>C.fresh (e' ▸ (hm1 i ob e).1)
   rw [upd_other _ _ hne,upd_other _ _ hne]
   exact e
  ·intro i ob e
   simp only [updH] at e
   exact ⟨.inl (hm1 i ob e).1,OB.ment_mono (fun _ h=>.inl h) (hm1 i ob e).2⟩

theorem op_callv (C:Ctx w0 G0 Gr G M E H Hv hid fr a W) {args:Array Operand} {ts:Array TypeId} {x:Operand} {x':Opd} {ys:List Opd} (hx:compOpd x = some x') (hys:compOpds args.toList = some ys) (hop:o.op = .call { callee:=.value x,args:=args,argTypes:=ts })
  (hd:(ev tab fr Hv hid (.callv x' ys)).den P hid Gr G K):Goal P o a W rd nn Q w0 G0 M E H hid K:=by
 have rx:=opd_rel C.rfr hx
 simp only [ev] at hd
 split at hd
 case h_2=>exact hd.elim
 rename_i vs hvs
 split at hd
 case h_2=>exact hd.elim
 rename_i v ex
 rw [ex] at rx
 obtain ⟨s,⟨g,first,cap,rfl,hb,h1⟩,⟨hd⟩⟩:=hd
 have hargs:=opds_rel C.rfr (fun h ob v e e'=>C.sim.name (C.view h ob e) e') hys hvs
 have hrun:=run_call_fn (P:=P) (W:=W) (o:=o) (a:=a) (x:=x) (first:=first) (cap:=cap) hb rx hop
 have e1:(first++args.map a.eval++cap:Array Value) = (first.toList++vs++cap.toList).toArray:=by
  rw [← hargs];apply Array.ext';simp
 rw [e1] at hrun
 exact wp_of_enter (by simp [hop]) hrun (callv_sound C h1 hd)

theorem op_nilc (C:Ctx w0 G0 Gr G M E H Hv hid fr a W) {x:Operand} {x':Opd} (hx:compOpd x = some x') (hop:o.op = .nilCheck x)
  (hd:(ev tab fr Hv hid (.nilc x')).den P hid Gr G K):Goal P o a W rd nn Q w0 G0 M E H hid K:=by
 have rx:=opd_rel C.rfr hx
 have mx:=opd_ment C.mfr x'
 simp only [ev] at hd
 split at hd
 case h_5=>exact hd.elim
 case h_3 =>
  rename_i h off ex
  rw [ex] at rx mx
  obtain ⟨b,e1,e2⟩:=rx
  exact C.quiet (v:=.pointer (some ⟨b,off,none⟩)) (by simp [hop]) (by simp [execOp,hop,e2]) hd ⟨b,e1,rfl⟩ mx
 ·rename_i h off ex
  rw [ex] at rx mx
  obtain ⟨b,e1,e2⟩:=rx
  exact C.quiet (v:=.pointer (some ⟨b,off,none⟩)) (by simp [hop]) (by simp [execOp,hop,e2]) hd ⟨b,e1,rfl⟩ mx
 ·rename_i h off ex
  rw [ex] at rx mx
  obtain ⟨b,n,c,e1,e2⟩:=rx
  exact C.quiet (v:=.pointer (some ⟨b,off,none⟩)) (by simp [hop]) (by simp [execOp,hop,e2]) hd ⟨b,n,c,e1,rfl⟩ mx
 ·rename_i p ex
  rw [ex] at rx
  have rx:a.eval x = .pointer (some p):=rx
  exact C.quiet (v:=.pointer (some p)) (by simp [hop]) (by simp [execOp,hop,rx]) hd rfl trivial

theorem op_ext (C:Ctx w0 G0 Gr G M E H Hv hid fr a W) {x:Operand} {x':Opd} {i:Nat} (hx:compOpd x = some x') (hop:o.op = .extract x i)
  (hd:(ev tab fr Hv hid (.ext x' i)).den P hid Gr G K):Goal P o a W rd nn Q w0 G0 M E H hid K:=by
 have rx:=opd_rel C.rfr hx
 simp only [ev] at hd
 split at hd
 case h_2=>exact hd.elim
 rename_i vs ex
 rw [ex] at rx
 have rx:a.eval x = .tuple vs:=rx
 split at hd
 case h_2=>exact hd.elim
 rename_i v hv
 have hv':vs[i]? = some v:=by simpa using hv
 exact C.quiet (v:=v) (by simp [hop]) (by simp [execOp,hop,rx,Instr.extract,hv']) hd (SV.of_rel E v) (SV.of_ment M v)

theorem run_value {s:Sem Value} {v:Value} (h:s.run P W = .ok v W):Sem.run P (do let x ← s;pure (Next.value x)) W = .ok (.value v) W:=by
 simp [h]
theorem run_guard {op:BinOp} {t:TypeId} {x y:Operand} {v w u:Value} (h:Sem.run P (do eqGuard op t (.tmp 0) (.tmp 0) v w;binOp op t v w) W = .ok u W):Sem.run P (do eqGuard op t x y v w;binOp op t v w) W = .ok u W:=by
 by_cases hn:(v = .nilIface∧w = .nilIface)
 ·obtain ⟨rfl,rfl⟩:=hn
  by_cases ho:(op matches .eql | .neq) = true
  ·by_cases hxy:(x matches .const _) = true∨(y matches .const _) = true
   ·-- the literal nil: no look
    have e1:eqGuard op t x y .nilIface .nilIface = pure ():=by
     unfold eqGuard
     cases op<;>cases x<;>cases y<;>first | rfl | (simp at hxy;done) | (simp at ho;done)
    rw [e1]
    have e2 : ∀ W, Sem.run P (eqGuard op t (.tmp 0) (.tmp 0) .nilIface .nilIface) W = (Sem.run P (do if ← Op.eqGuardIn Op.maxDepth t .nilIface .nilIface then unsupported (.noEntry "binop/eql: two nil values of an interface type with methods, neither of them the literal nil")) W) := fun W => by
     unfold eqGuard
     cases op<;>first | rfl | (simp at ho;done)
    rw [Sem.run_bind,e2] at h
    simp only [pure_bind]
    revert h
    rw [Sem.run_bind]
    cases hg:Sem.run P (Op.eqGuardIn Op.maxDepth t .nilIface .nilIface) W with
    | ok b w' =>
     simp only [Result.andThen]
     have hw:w' = W:=by
      obtain ⟨dd,hdd⟩:∃ dd,Op.maxDepth = dd + 1:=⟨9999,rfl⟩
      rw [hdd] at hg
      cases hu:P.underlying t with
      | none =>
       simp [Op.eqGuardIn,underlying,hu,Sem.run_bind,stuck,Result.andThen] at hg
      | some d =>
       simp only [Op.eqGuardIn,Sem.run_bind,run_underlying hu,Result.andThen] at hg
       cases d<;>simp at hg<;>exact hg.2.symm
     subst hw
     cases b
     ·intro h;simpa using h
     ·intro h;simp [unsupported] at h
    | _=>intro h;simp [Result.andThen] at h
   ·have e1:eqGuard op t x y .nilIface .nilIface = eqGuard op t (.tmp 0) (.tmp 0) .nilIface .nilIface:=by
     unfold eqGuard
     cases op<;>cases x<;>cases y<;>first | rfl | (simp at hxy;done)
    rw [e1];exact h
  ·have e1:eqGuard op t x y .nilIface .nilIface = eqGuard op t (.tmp 0) (.tmp 0) .nilIface .nilIface:=by
    unfold eqGuard
    cases op<;>first | rfl | (simp at ho;done)
   rw [e1];exact h
 ·have e1:eqGuard op t x y v w = eqGuard op t (.tmp 0) (.tmp 0) v w:=by
   unfold eqGuard
   cases v<;>cases w<;>first | rfl | (simp at hn;done)
  rw [e1];exact h
theorem op_pur (C:Ctx w0 G0 Gr G M E H Hv hid fr a W) {p:POp} {xs:List Operand} {ys:List Opd} (hys:compOpds xs = some ys) (hnd:∀ c,o.op≠.defer c) (hrun:∀ v,(p.sem (xs.map a.eval)).run P W = .ok v W→(execOp a.eval o).run P W = .ok (.value v) W)
  (hd:(ev tab fr Hv hid (.pur p ys)).den P hid Gr G K):Goal P o a W rd nn Q w0 G0 M E H hid K:=by
 simp only [ev] at hd
 split at hd
 case h_2=>exact hd.elim
 rename_i vs hvs
 obtain ⟨v,h1,⟨hk⟩⟩:=hd
 have hargs:=opds_rel C.rfr (fun h ob v e e'=>C.sim.name (C.view h ob e) e') hys hvs
 rw [← hargs] at h1
 exact C.quiet hnd (hrun v (h1 W)) hk (SV.of_rel E v) (SV.of_ment M v)

theorem bool_or {a b:Bool} (h:(a || b) = true):a = true∨b = true:=by cases a<;>simp_all
theorem op_sound (C:Ctx w0 G0 Gr G M E H Hv hid fr a W) (T:Tab P) {io:IOp} (hc:compOp P o.op = some io) (hd:(ev T.get fr Hv hid io).den P hid Gr G K):Goal P o a W rd nn Q w0 G0 M E H hid K:=by
 cases hop:o.op with
 | move x =>
  rw [hop] at hc;simp only [compOp,Option.map_eq_some_iff] at hc
  obtain ⟨y,hy,rfl⟩:=hc
  exact op_mv C hy (.inl hop) hd
 | assign x =>
  rw [hop] at hc;simp only [compOp,Option.map_eq_some_iff] at hc
  obtain ⟨y,hy,rfl⟩:=hc
  exact op_mv C hy (.inr hop) hd
 | pick c x z =>
  rw [hop] at hc;simp only [compOp] at hc
  split at hc
  ·cases hc;exact op_pick C ‹_› ‹_› ‹_› hop hd
  ·cases hc
 | binOp op t x z t' =>
  rw [hop] at hc;simp only [compOp] at hc
  split at hc
  ·rename_i x' y' hx hy
   cases hpb:plainBin P op t with
   | true=>rw [hpb] at hc;cases hc;exact op_bin C ‹_› ‹_› hop hd
   | false =>
    rw [hpb] at hc;cases hc
    refine op_pur C (p:=.bin op t) (xs:=[x,z]) (by simp [compOpds,hx,hy]) (by simp [hop]) (fun v h=>?_) hd
    simp only [POp.sem,List.map_cons,List.map_nil] at h
    simp only [execOp,hop]
    exact run_value (run_guard h)
  ·cases hc
 | unOp op t x =>
  rw [hop] at hc;simp only [compOp] at hc
  split at hc
  ·rename_i x' hx
   cases hpu:plainUn op with
   | true=>rw [hpu] at hc;cases hc;exact op_un C hx hop hd
   | false =>
    rw [hpu] at hc;cases hc
    refine op_pur C (p:=.un op) (xs:=[x]) (by simp [compOpds,hx]) (by simp [hop]) (fun v h=>?_) hd
    simp only [POp.sem,List.map_cons,List.map_nil] at h
    simp only [execOp,hop]
    exact run_value h
  ·cases hc
 | convert s t x =>
  rw [hop] at hc;simp only [compOp] at hc
  split at hc
  ·cases hc;exact op_conv C ‹_› ‹_› ‹_› hop hd
  ·rename_i x' hx _ _
   cases hc
   refine op_pur C (p:=.conv s t) (xs:=[x]) (by simp [compOpds,hx]) (by simp [hop]) (fun v h=>?_) hd
   simp only [POp.sem,List.map_cons,List.map_nil] at h
   simp only [execOp,hop]
   exact run_value h
  ·rename_i x' e hx hs ht
   split at hc
   ·cases hc;exact op_s2b C hx hs ht ‹_› hop hd
   ·cases hc
  ·cases hc
 | index t x i =>
  rw [hop] at hc;simp only [compOp] at hc
  split at hc
  ·rename_i x' i' hx hi
   cases hc
   refine op_pur C (p:=.idx t) (xs:=[x,i]) (by simp [compOpds,hx,hi]) (by simp [hop]) (fun v h=>?_) hd
   simp only [POp.sem,List.map_cons,List.map_nil] at h
   simp only [execOp,hop]
   exact run_value h
  ·cases hc
 | makeInterface t x =>
  rw [hop] at hc;simp only [compOp] at hc
  split at hc
  ·rename_i x' hx
   cases hc
   refine op_pur C (p:=.mki t) (xs:=[x]) (by simp [compOpds,hx]) (by simp [hop]) (fun v h=>?_) hd
   simp only [POp.sem,List.map_cons,List.map_nil] at h
   simp only [execOp,hop]
   exact run_value h
  ·cases hc
 | typeAssert x t a' ok =>
  rw [hop] at hc;simp only [compOp] at hc
  split at hc
  ·rename_i x' hx
   cases hc
   refine op_pur C (p:=.tas t a' ok) (xs:=[x]) (by simp [compOpds,hx]) (by simp [hop]) (fun v h=>?_) hd
   simp only [POp.sem,List.map_cons,List.map_nil] at h
   simp only [execOp,hop]
   exact run_value h
  ·cases hc
 | box t x =>
  rw [hop] at hc;simp only [compOp,Option.map_eq_some_iff] at hc
  obtain ⟨y,hy,rfl⟩:=hc
  exact op_box C hy hop hd
 | alloc t =>
  rw [hop] at hc;simp only [compOp,Option.map_eq_some_iff] at hc
  obtain ⟨y,hy,rfl⟩:=hc
  exact op_alloc C hy hop hd
 | load t x =>
  rw [hop] at hc;simp only [compOp] at hc
  split at hc
  ·rename_i x' n g _ _ _
   cases hb:(g || Nat.beq n 1) with
   | false=>rw [hb] at hc;cases hc
   | true =>
    rw [hb] at hc;cases hc
    exact op_load C ‹_› ‹_› ‹_› ((bool_or hb).imp id Nat.eq_of_beq_eq_true) hop hd
  ·cases hc
 | store t x z =>
  rw [hop] at hc;simp only [compOp] at hc
  split at hc
  ·cases hc;exact op_store C ‹_› ‹_› ‹_› hop hd
  ·cases hc
 | fieldAddr s x i =>
  rw [hop] at hc;simp only [compOp] at hc
  split at hc
  ·split at hc
   ·split at hc
    ·rename_i n _
     cases hb:Nat.ble 1 n with
     | false=>rw [hb] at hc;cases hc
     | true=>rw [hb] at hc;cases hc;exact op_faddr C ‹_› ‹_› ‹_› ‹_› (Nat.le_of_ble_eq_true hb) hop hd
    ·cases hc
   ·cases hc
  ·cases hc
 | indexAddr t x i =>
  rw [hop] at hc;simp only [compOp] at hc
  split at hc
  ·split at hc
   ·rename_i e he
    simp only [Option.map_eq_some_iff] at hc
    obtain ⟨k,hk,rfl⟩:=hc
    have he':P.underlying t = some (.slice e):=by
     unfold elemT at he
     split at he
     ·cases he;assumption
     ·cases he
    exact op_iaddr C ‹_› ‹_› he' hk hop hd
   ·split at hc
    ·rename_i n e he
     have he':P.underlying t = some (.array n e):=by
      unfold arrT at he
      split at he
      ·cases he;assumption
      ·cases he
     split at hc
     ·rename_i k hk
      cases hb:Nat.ble 1 k with
      | false=>rw [hb] at hc;cases hc
      | true=>rw [hb] at hc;cases hc;exact op_aaddr C ‹_› ‹_› he' hk (Nat.le_of_ble_eq_true hb) hop hd
     ·cases hc
    ·cases hc
  ·cases hc
 | slice t x lo hi mx =>
  rw [hop] at hc;simp only [compOp] at hc
  split at hc
  ·split at hc
   ·rename_i e he
    have he':P.underlying t = some (.slice e):=by
     unfold elemT at he
     split at he
     ·cases he;assumption
     ·cases he
    split at hc
    ·rename_i hi' mx' _ _ _ _ _ _ k hk
     cases hb:topOk hi' mx' with
     | false=>rw [hb] at hc;cases hc
     | true=>rw [hb] at hc;cases hc;exact op_slc C ‹_› ‹_› ‹_› ‹_› he' hk hb hop hd
    ·cases hc
   ·rename_i x' lo' hi' mx' hx hlo hhi hmx _ _
    have opt:∀ {z:Option Operand} {z':Option Opd},compOpt z = some z'→(z = none∧z' = none)∨∃ y y',z = some y∧z' = some y'∧compOpd y = some y':=fun {z z'} h=>by
     cases z with
     | none=>cases h;exact .inl ⟨rfl,rfl⟩
     | some y =>
      simp only [compOpt,Option.map_eq_some_iff] at h
      obtain ⟨y',h1,rfl⟩:=h
      exact .inr ⟨y,y',rfl,rfl,h1⟩
    rcases opt hmx with ⟨rfl,rfl⟩ | ⟨_,_,rfl,rfl,_⟩
    ·rcases opt hlo with ⟨rfl,rfl⟩ | ⟨l,l',rfl,rfl,hl⟩<;>rcases opt hhi with ⟨rfl,rfl⟩ | ⟨h,h',rfl,rfl,hh⟩
     ·cases hc
      refine op_pur C (p:=.slcS t false false) (xs:=[x]) (by simp [compOpds,hx]) (by simp [hop]) (fun v h=>?_) hd
      simp only [POp.sem,List.map_cons,List.map_nil] at h
      simp only [execOp,hop,Option.map_none]
      exact run_value h
     ·cases hc
      refine op_pur C (p:=.slcS t false true) (xs:=[x,h]) (by simp [compOpds,hx,hh]) (by simp [hop]) (fun v h=>?_) hd
      simp only [POp.sem,List.map_cons,List.map_nil] at h
      simp only [execOp,hop,Option.map_none,Option.map_some]
      exact run_value h
     ·cases hc
      refine op_pur C (p:=.slcS t true false) (xs:=[x,l]) (by simp [compOpds,hx,hl]) (by simp [hop]) (fun v h=>?_) hd
      simp only [POp.sem,List.map_cons,List.map_nil] at h
      simp only [execOp,hop,Option.map_none,Option.map_some]
      exact run_value h
     ·cases hc
      refine op_pur C (p:=.slcS t true true) (xs:=[x,l,h]) (by simp [compOpds,hx,hl,hh]) (by simp [hop]) (fun v h=>?_) hd
      simp only [POp.sem,List.map_cons,List.map_nil] at h
      simp only [execOp,hop,Option.map_none,Option.map_some]
      exact run_value h
    ·cases hc
  ·cases hc
 | makeSlice t n c =>
  rw [hop] at hc;simp only [compOp] at hc
  split at hc
  ·rename_i n' e _ he
   have he':P.underlying t = some (.slice e):=by
    unfold elemT at he
    split at he
    ·cases he;assumption
    ·cases he
   split at hc
   ·rename_i zs by' _ _
    cases hb:(sameOpd n c && Nat.ble 1 zs.length && Nat.ble 1 by') with
    | false=>rw [hb] at hc;cases hc
    | true =>
     rw [hb] at hc;cases hc
     simp only [Bool.and_eq_true] at hb
     have:=sameOpd_eq hb.1.1
     subst this
     exact op_mks C ‹_› he' ‹_› ‹_› (Nat.le_of_ble_eq_true hb.1.2) (Nat.le_of_ble_eq_true hb.2) hop hd
   ·cases hc
  ·cases hc
 | makeMap t rv =>
  rw [hop] at hc
  cases rv with
  | none=>simp only [compOp,Option.some.injEq] at hc;subst hc;exact op_mkm C hop hd
  | some _=>simp [compOp] at hc
 | panic x =>
  rw [hop] at hc
  simp only [compOp,Option.some.injEq] at hc
  subst hc
  exact (show False from hd).elim
 | lookup t x k ok =>
  rw [hop] at hc;simp only [compOp] at hc
  split at hc
  ·rename_i x' k' kt e _ _ he
   have he':P.underlying t = some (.map kt e):=by
    unfold mapT at he
    split at he
    ·cases he;assumption
    ·cases he
   split at hc
   ·cases hc;exact op_lkp C ‹_› ‹_› he' ‹_› hop hd
   ·cases hc
  ·cases hc
 | mapUpdate t m k x =>
  rw [hop] at hc;simp only [compOp] at hc
  split at hc
  ·rename_i m' k' x' kt e _ _ _ he
   have he':P.underlying t = some (.map kt e):=by
    unfold mapT at he
    split at he
    ·cases he;assumption
    ·cases he
   cases hc;exact op_mup C ‹_› ‹_› ‹_› he' (.inl hop) hd
  ·cases hc
 | insert t m k x =>
  rw [hop] at hc;simp only [compOp] at hc
  split at hc
  ·rename_i m' k' x' kt e _ _ _ he
   have he':P.underlying t = some (.map kt e):=by
    unfold mapT at he
    split at he
    ·cases he;assumption
    ·cases he
   cases hc;exact op_mup C ‹_› ‹_› ‹_› he' (.inr hop) hd
  ·cases hc
 | range t x =>
  rw [hop] at hc;simp only [compOp] at hc
  split at hc
  ·cases hc;exact hd.elim
  ·cases hc
 | next x s =>
  rw [hop] at hc
  cases s with
  | true=>simp [compOp] at hc
  | false =>
   simp only [compOp,Option.map_eq_some_iff] at hc
   obtain ⟨y,hy,rfl⟩:=hc
   exact hd.elim
 | entry x =>
  rw [hop] at hc;simp only [compOp,Option.map_eq_some_iff] at hc
  obtain ⟨y,hy,rfl⟩:=hc
  exact hd.elim
 | makeFunc fn first caps =>
  rw [hop] at hc
  cases fn with
  | func f =>
   simp only [compOp] at hc
   split at hc
   ·cases hc;exact op_mkf C ‹_› ‹_› hop hd
   ·cases hc
  | _=>simp [compOp] at hc
 | field s x i =>
  rw [hop] at hc;simp only [compOp] at hc
  split at hc
  ·split at hc
   ·split at hc
    ·rename_i n g _ _
     cases hb:(g || Nat.beq n 1) with
     | false=>rw [hb] at hc;cases hc
     | true =>
      rw [hb] at hc;cases hc
      exact op_fld C ‹_› ‹_› ‹_› ‹_› ‹_› ((bool_or hb).imp id Nat.eq_of_beq_eq_true) hop hd
    ·cases hc
   ·cases hc
  ·cases hc
 | build t parts =>
  rw [hop] at hc;simp only [compOp] at hc
  split at hc
  ·cases hc;exact op_bld C ‹_› ‹_› ‹_› hop hd
  ·cases hc
 | buildSlice t len parts =>
  rw [hop] at hc;simp only [compOp] at hc
  split at hc
  ·rename_i e xs he _
   split at hc
   ·rename_i zs _
    cases hb:(Nat.ble 1 zs.length && Nat.ble (len * zs.length) 16777216) with
    | false=>rw [hb] at hc;cases hc
    | true =>
     rw [hb] at hc;cases hc
     rw [Bool.and_eq_true] at hb
     have he':P.underlying t = some (.slice e):=by
      unfold elemT at he
      split at he
      ·cases he;assumption
      ·cases he
     exact op_bsl C he' ‹_› ‹_› (Nat.le_of_ble_eq_true hb.1) (Nat.le_of_ble_eq_true hb.2) hop hd
   ·cases hc
  ·cases hc
 | nilCheck x =>
  rw [hop] at hc;simp only [compOp,Option.map_eq_some_iff] at hc
  obtain ⟨y,hy,rfl⟩:=hc
  exact op_nilc C hy hop hd
 | extract x i =>
  rw [hop] at hc;simp only [compOp,Option.map_eq_some_iff] at hc
  obtain ⟨y,hy,rfl⟩:=hc
  exact op_ext C hy hop hd
 | call c =>
  rw [hop] at hc;simp only [compOp] at hc
  obtain ⟨cal,args,ats⟩:=c
  unfold compCall at hc
  simp only at hc
  split at hc
  ·split at hc
   ·cases hc;exact op_call C T ‹_› hop hd
   ·cases hc
  ·split at hc
   ·cases hc;exact op_callv C ‹_› ‹_› hop hd
   ·cases hc
  ·split at hc
   ·rename_i x t e1 e2
    have e1:args = #[x]:=Array.ext' e1
    have e2:ats = #[t]:=Array.ext' e2
    subst e1;subst e2
    split at hc
    ·cases hc;exact op_len C ‹_› ‹_› hop hd
    ·cases hc;exact op_lenS C ‹_› ‹_› hop hd
    ·cases hc;exact op_lenM C ‹_› ‹_› hop hd
    ·cases hc
   ·cases hc
  ·split at hc
   ·rename_i x y t t' e1 e2
    have e1:args = #[x,y]:=Array.ext' e1
    have e2:ats = #[t,t']:=Array.ext' e2
    subst e1;subst e2
    split at hc
    ·cases hc;exact op_mm C (mx:=true) ‹_› ‹_› hop hd
    ·cases hc
   ·cases hc
  ·split at hc
   ·rename_i x y t t' e1 e2
    have e1:args = #[x,y]:=Array.ext' e1
    have e2:ats = #[t,t']:=Array.ext' e2
    subst e1;subst e2
    split at hc
    ·cases hc;exact op_mm C (mx:=false) ‹_› ‹_› hop hd
    ·cases hc
   ·cases hc
  ·split at hc
   ·rename_i x t e1 e2
    have e1:args = #[x]:=Array.ext' e1
    have e2:ats = #[t]:=Array.ext' e2
    subst e1;subst e2
    split at hc
    ·cases hc;exact op_cap C ‹_› ‹_› hop hd
    ·cases hc
   ·cases hc
  ·split at hc
   ·rename_i x t e1 e2
    have e1:args = #[x]:=Array.ext' e1
    have e2:ats = #[t]:=Array.ext' e2
    subst e1;subst e2
    split at hc
    ·split at hc
     ·cases hc;exact op_clr C ‹_› ‹_› ‹_› hop hd
     ·cases hc
    ·cases hc
   ·cases hc
  ·split at hc
   ·rename_i d s t t' e1 e2
    have e1:args = #[d,s]:=Array.ext' e1
    have e2:ats = #[t,t']:=Array.ext' e2
    subst e1;subst e2
    split at hc
    ·split at hc
     ·cases hc;exact op_cpy C ‹_› ‹_› ‹_› ‹_› hop hd
     ·cases hc
    ·cases hc
   ·cases hc
  ·split at hc
   ·rename_i m k t t2 e1 e2
    have e1:args = #[m,k]:=Array.ext' e1
    have e2:ats = #[t,t2]:=Array.ext' e2
    subst e1;subst e2
    split at hc
    ·rename_i m' k' kt _ _ he
     have he':∃ e,P.underlying t = some (.map kt e):=by
      split at he
      ·rename_i kt' e' hu
       cases he;exact ⟨_,hu⟩
      ·cases he
     cases hc;exact op_del C ‹_› ‹_› he' hop hd
    ·cases hc
   ·cases hc
  ·split at hc
   ·rename_i s x t t' e1 e2
    have e1:args = #[s,x]:=Array.ext' e1
    have e2:ats = #[t,t']:=Array.ext' e2
    subst e1;subst e2
    split at hc
    ·rename_i s' x' e _ _ he
     split at hc
     ·rename_i zs by' _ _
      cases hb:(Nat.beq t t' && Nat.ble 1 zs.length && Nat.ble 1 by') with
      | false =>
       rw [hb] at hc
       simp only [cond_false] at hc
       split at hc
       ·rename_i kn ht'
        cases hb2:(Nat.ble 1 zs.length && Nat.ble 1 by') with
        | false=>rw [hb2] at hc;cases hc
        | true =>
         rw [hb2] at hc;cases hc
         simp only [Bool.and_eq_true] at hb2
         have he':P.underlying t = some (.slice e):=by
          unfold elemT at he
          split at he
          ·cases he;assumption
          ·cases he
         exact op_appz C ‹_› ‹_› he' ht' ‹_› ‹_› (Nat.le_of_ble_eq_true hb2.1) (Nat.le_of_ble_eq_true hb2.2) hop hd
       ·cases hc
      | true =>
       rw [hb] at hc;cases hc
       simp only [Bool.and_eq_true] at hb
       have:=Nat.eq_of_beq_eq_true hb.1.1
       subst this
       have he':P.underlying t = some (.slice e):=by
        unfold elemT at he
        split at he
        ·cases he;assumption
        ·cases he
       exact op_app C ‹_› ‹_› he' ‹_› ‹_› (Nat.le_of_ble_eq_true hb.1.2) (Nat.le_of_ble_eq_true hb.2) hop hd
     ·cases hc
    ·cases hc
   ·cases hc
  ·cases hc
 | _=>rw [hop] at hc;simp [compOp] at hc
theorem op_pubd (C:Ctx w0 G0 Gr G M E H Hv hid fr a W) {t:TypeId} {k len:Nat} {vs:List Value} (hg:Goal P o a W rd nn Q w0 G0 M E H hid (fun sv hu G'=>sv = .c (.row hid len)∧hu = [(hid,some (.row none len vs t k))]∧G' = G)) (hd:(Res.call (rowS len vs) []).den P hid Gr G K):Goal P o a W rd nn Q w0 G0 M E H hid K:=by
  refine Oper.wpIn_mono ?_ hg
  rintro a' W' ⟨v,rfl,sv,hu,G',E',⟨rfl,rfl,rfl⟩,hr,hm,hag,hsim,hmH⟩
  refine ⟨v,rfl, ?_⟩
  obtain ⟨hv,a0,c0,hE⟩:=hr
  have hrow:updH H [(hid,some (.row none len vs t k))] hid = some (.row none len vs t k):=upd_same _ _ _
  obtain ⟨hown,hone,hmine⟩:=hsim.own hid _ hrow
  obtain ⟨b,hb⟩:∃ b, ∀ c,blkOf (E' hid) = some c→c = b:=by
   cases hbl:blkOf (E' hid) with
   | none=>exact ⟨0,fun c e=>by cases e⟩
   | some b=>exact ⟨b,fun c e=>by cases e;rfl⟩
  obtain ⟨G2,g1,g2,g3⟩:=hsim.publish (ob':=.row (some (E' hid)) len vs t k) hrow rfl hb ⟨hown,hone,hmine⟩ rfl
  have hpub:PubRow G2 a0 len c0 vs:=by
   rcases hown.2 with ⟨e',hn⟩ | ⟨g,cap,cur,e',_,hw,hnc,_,hsz,htake⟩
   ·have hv0:vs = []:=List.eq_nil_of_length_eq_zero (by rw [hown.1,hn,Nat.zero_mul])
    exact ⟨by omega,fun h=>absurd hn h,fun j v hj=>by rw [hv0] at hj;simp at hj⟩
   ·rw [hE] at e'
    injection e' with e1 e2 e3
    subst e1 e3
    refine ⟨hnc,fun _=>rfl,fun j v hj=>?_⟩
    have:=g2 g (by rw [hE];rfl)
    rw [hw] at this
    simp only [rd1,ab_some,ao_some,this,Nat.zero_add]
    rw [← htake,List.getElem?_take] at hj
    split at hj
    ·simpa using hj
    ·cases hj
  have hlen:E' hid = .slice a0 len c0:=hE
  have hsim2:Sim w0 G0 E' H G2 W':=g3.drop (fun i ob e=>by
   have hne:i≠hid:=fun e'=>C.fresh (e' ▸ (C.mH i ob e).1)
   rw [upd_other _ _ hne]
   simp only [updH,upd_other _ _ hne];exact e)
  obtain ⟨sv',k1,k2,k3⟩:=fork_elim (hd.k (.slice a0 len c0) G2 g1 ⟨a0,c0,rfl,hpub⟩).out (SV.of_rel E' _) (SV.of_ment M _)
  rw [hv,hlen]
  exact ⟨sv',[],G2,E',k1,k2,SV.ment_mono (fun _ h=>.inl h) k3,hag,hsim2,fun h ob e=>⟨.inl (C.mH h ob e).1,OB.ment_mono (fun _ h=>.inl h) (C.mH h ob e).2⟩⟩
theorem op_bslp (C:Ctx w0 G0 Gr G M E H Hv hid fr a W) (T:Tab P) {t:TypeId} {k len:Nat} {zs:List Value} {xs:List (Nat × Opd)} (hc:compOp P o.op = some (.bsl t k len zs xs)) (hd:(ev T.get fr Hv hid (.bslp t k len zs xs)).den P hid Gr G K):Goal P o a W rd nn Q w0 G0 M E H hid K:=by
 simp only [ev] at hd
 split at hd
 case h_2=>exact hd.elim
 rename_i cs hlay
 split at hd
 case h_2=>exact hd.elim
 rename_i vs hvs
 cases h1:allOne cs with
 | false=>rw [h1] at hd;exact hd.elim
 | true =>
  rw [h1] at hd
  have hb:(ev T.get fr Hv hid (.bsl t k len zs xs)).den P hid Gr G (fun sv hu G'=>sv = .c (.row hid len)∧hu = [(hid,some (.row none len vs t k))]∧G' = G):=by
   simp only [ev,hlay,hvs,h1,cond_true]
   exact ⟨rfl,rfl,rfl⟩
  exact op_pubd C (op_sound C T hc hb) hd
theorem op_mksp (C:Ctx w0 G0 Gr G M E H Hv hid fr a W) (T:Tab P) {t:TypeId} {k bytes:Nat} {zs:List Value} {n:Opd} (hc:compOp P o.op = some (.mks t k bytes zs n)) (hd:(ev T.get fr Hv hid (.mksp t k bytes zs n)).den P hid Gr G K):Goal P o a W rd nn Q w0 G0 M E H hid K:=by
 simp only [ev] at hd
 split at hd
 case h_2=>exact hd.elim
 rename_i q m hm
 obtain ⟨hφ,⟨hd⟩⟩:=hd
 have hb:(ev T.get fr Hv hid (.mks t k bytes zs n)).den P hid Gr G (fun sv hu G'=>sv = .c (.row hid m.toNat)∧hu = [(hid,some (.row none m.toNat (List.replicate m.toNat zs).flatten t k))]∧G' = G):=by
  simp only [ev,hm]
  exact ⟨hφ,⟨rfl,rfl,rfl⟩⟩
 exact op_pubd C (op_sound C T hc hb) hd

theorem cond_injH {α:Type} {b:Bool} {x y:α} (h:(bif b then some x else none) = some y):x = y:=by
 cases b
 ·cases h
 ·exact Option.some.inj h

theorem cond_or3H {α:Type} {b c:Bool} {x y z:α} (h:(bif b then some x else bif c then some y else none) = some z):x = z∨y = z:=by
 cases b
 ·exact .inr (cond_injH h)
 ·exact .inl (Option.some.inj h)

theorem cond_orsH {α:Type} {b:Bool} {x y z:α} (h:(bif b then some x else some y) = some z):x = z∨y = z:=by
 cases b
 ·exact .inr (Option.some.inj h)
 ·exact .inl (Option.some.inj h)

theorem compOp_callH {P:Program} {op:Op} {f:FuncId} {ys:List Opd} (h:compOp P op = some (.call f ys)):∃ args ts,op = .call { callee:=.value (.func f),args:=args,argTypes:=ts }∧compOpds args.toList = some ys:=by
 cases op with
 | call c =>
  simp only [compOp,compCall] at h
  obtain ⟨callee,args,ts⟩:=c
  simp only at h
  split at h
  ·split at h
   ·cases h;exact ⟨_,_,rfl, ‹_›⟩
   ·cases h
  ·split at h<;>cases h
  all_goals (repeat' split at h)<;>first | (cases h;done) | (cases (cond_injH h);done) | (rcases cond_orsH h with h | h<;>cases h;done) | (rcases cond_or3H h with h | h<;>cases h;done)
 | _ =>
  simp only [compOp] at h
  first
   | (cases h;done)
   | (simp only [Option.map_eq_some_iff] at h;obtain ⟨_,_,h⟩:=h;cases h;done)
   | ((repeat' split at h)<;>first | contradiction | (cases h;done) | (simp only [Option.map_eq_some_iff] at h;obtain ⟨_,_,h⟩:=h;cases h;done) | (cases (cond_injH h);done) | (rcases cond_orsH h with h | h<;>cases h;done) | (rcases cond_or3H h with h | h<;>cases h;done))

theorem compOp_appH {P:Program} {op:Op} {e:TypeId} {k by':Nat} {s' x':Opd} (h:compOp P op = some (.app e k by' s' x')):∃ t s x zs,op = .call { callee:=.builtin .append,args:=#[s,x],argTypes:=#[t,t] }∧compOpd s = some s'∧compOpd x = some x' ∧
  P.underlying t = some (.slice e)∧zeroT P e = some zs∧zs.length = k∧byT P e = some by'∧1≤k∧1≤by':=by
 cases op with
 | call c =>
  simp only [compOp,compCall] at h
  obtain ⟨callee,args,ts⟩:=c
  simp only at h
  split at h
  ·split at h<;>cases h
  ·split at h<;>cases h
  rotate_right 2
  ·split at h
   ·rename_i s x t t' e1 e2
    have e1:args = #[s,x]:=Array.ext' e1
    have e2:ts = #[t,t']:=Array.ext' e2
    subst e1;subst e2
    split at h
    ·rename_i s1 x1 e0 h1 h2 he
     split at h
     ·rename_i zs by1 h3 h4
      cases hb:(Nat.beq t t' && Nat.ble 1 zs.length && Nat.ble 1 by1) with
      | false =>
       rw [hb] at h
       simp only [cond_false] at h
       split at h
       ·cases hb2:(Nat.ble 1 zs.length && Nat.ble 1 by1)<;>rw [hb2] at h<;>cases h
       ·cases h
      | true =>
       rw [hb] at h;cases h
       simp only [Bool.and_eq_true] at hb
       have:=Nat.eq_of_beq_eq_true hb.1.1
       subst this
       have he':P.underlying t = some (.slice e):=by
        unfold elemT at he
        split at he
        ·cases he;assumption
        ·cases he
       exact ⟨t,s,x,zs,rfl,h1,h2,he',h3,rfl,h4,Nat.le_of_ble_eq_true hb.1.2,Nat.le_of_ble_eq_true hb.2⟩
     ·cases h
    ·cases h
   ·cases h
  ·cases h
  all_goals (repeat' split at h)<;>first | (cases h;done) | (cases (cond_injH h);done) | (rcases cond_orsH h with h | h<;>cases h;done) | (rcases cond_or3H h with h | h<;>cases h;done)
 | _ =>
  simp only [compOp] at h
  first
   | (cases h;done)
   | (simp only [Option.map_eq_some_iff] at h;obtain ⟨_,_,h⟩:=h;cases h;done)
   | ((repeat' split at h)<;>first | contradiction | (cases h;done) | (simp only [Option.map_eq_some_iff] at h;obtain ⟨_,_,h⟩:=h;cases h;done) | (cases (cond_injH h);done) | (rcases cond_orsH h with h | h<;>cases h;done) | (rcases cond_or3H h with h | h<;>cases h;done))
theorem compOp_bslH {P:Program} {op:Op} {t:TypeId} {k len:Nat} {zs:List Value} {xs:List (Nat × Opd)} (h:compOp P op = some (.bsl t k len zs xs)):∃ t' parts zs',op = .buildSlice t' len parts∧P.underlying t' = some (.slice t)∧zeroT P t = some zs'∧compParts parts.toList = some xs∧k = zs'.length∧zs = (List.replicate len zs').flatten∧1≤zs'.length∧len * zs'.length≤16777216:=by
 cases op with
 | buildSlice t' len' parts =>
  simp only [compOp] at h
  split at h
  ·rename_i e xs' he hx
   split at h
   ·rename_i zs' hz
    cases hb:(Nat.ble 1 zs'.length && Nat.ble (len' * zs'.length) 16777216) with
    | false=>rw [hb] at h;cases h
    | true =>
     rw [hb] at h;cases h
     rw [Bool.and_eq_true] at hb
     have he':P.underlying t' = some (.slice t):=by
      unfold elemT at he
      split at he
      ·cases he;assumption
      ·cases he
     exact ⟨t',parts,zs',rfl,he',hz,hx,rfl,rfl,Nat.le_of_ble_eq_true hb.1,Nat.le_of_ble_eq_true hb.2⟩
   ·cases h
  ·cases h
 | call c =>
  obtain ⟨callee,args,ts⟩:=c
  simp only [compOp,compCall] at h
  (repeat' split at h)<;>first | (cases h;done) | (cases (cond_injH h);done) | (rcases cond_orsH h with h | h<;>cases h;done) | (rcases cond_or3H h with h | h<;>cases h;done)
 | _ =>
  simp only [compOp] at h
  first
   | (cases h;done)
   | (simp only [Option.map_eq_some_iff] at h;obtain ⟨_,_,h⟩:=h;cases h;done)
   | ((repeat' split at h)<;>first | contradiction | (cases h;done) | (simp only [Option.map_eq_some_iff] at h;obtain ⟨_,_,h⟩:=h;cases h;done) | (cases (cond_injH h);done) | (rcases cond_orsH h with h | h<;>cases h;done) | (rcases cond_or3H h with h | h<;>cases h;done))
theorem compOp_boxH {P:Program} {op:Op} {t:TypeId} {x:Opd} (h:compOp P op = some (.box t x)):∃ x0,op = .box t x0∧compOpd x0 = some x:=by
 cases op with
 | box t' x' =>
  simp only [compOp,Option.map_eq_some_iff] at h
  obtain ⟨y,h1,h2⟩:=h
  cases h2
  exact ⟨x',rfl,h1⟩
 | call c =>
  obtain ⟨callee,args,ts⟩:=c
  simp only [compOp,compCall] at h
  (repeat' split at h)<;>first | (cases h;done) | (cases (cond_injH h);done) | (rcases cond_orsH h with h | h<;>cases h;done) | (rcases cond_or3H h with h | h<;>cases h;done)
 | _ =>
  simp only [compOp] at h
  first
   | (cases h;done)
   | (simp only [Option.map_eq_some_iff] at h;obtain ⟨_,_,h⟩:=h;cases h;done)
   | ((repeat' split at h)<;>first | contradiction | (cases h;done) | (simp only [Option.map_eq_some_iff] at h;obtain ⟨_,_,h⟩:=h;cases h;done) | (cases (cond_injH h);done) | (rcases cond_orsH h with h | h<;>cases h;done) | (rcases cond_or3H h with h | h<;>cases h;done))
theorem compOp_mkmH {P:Program} {op:Op} (h:compOp P op = some .mkm):∃ t,op = .makeMap t none:=by
 cases op with
 | makeMap t rv =>
  cases rv with
  | none=>exact ⟨t,rfl⟩
  | some _=>simp [compOp] at h
 | call c =>
  obtain ⟨callee,args,ts⟩:=c
  simp only [compOp,compCall] at h
  (repeat' split at h)<;>first | (cases h;done) | (cases (cond_injH h);done) | (rcases cond_orsH h with h | h<;>cases h;done) | (rcases cond_or3H h with h | h<;>cases h;done)
 | _ =>
  simp only [compOp] at h
  first
   | (cases h;done)
   | (simp only [Option.map_eq_some_iff] at h;obtain ⟨_,_,h⟩:=h;cases h;done)
   | ((repeat' split at h)<;>first | contradiction | (cases h;done) | (simp only [Option.map_eq_some_iff] at h;obtain ⟨_,_,h⟩:=h;cases h;done) | (cases (cond_injH h);done) | (rcases cond_orsH h with h | h<;>cases h;done) | (rcases cond_or3H h with h | h<;>cases h;done))
theorem op_pubx (C:Ctx w0 G0 Gr G M E H Hv hid fr a W) {t:TypeId} {k len:Nat} {vs:List Value} (hg:o.wpIn (FW rd) nn P a W (fun a' W'=>∃ v,a' = a.put o.dst v∧OpPost w0 G0 M E H hid (fun sv hu G'=>sv = .c (.row hid len)∧hu = [(hid,some (.row none len vs t k))]∧G' = G) v W'∧∃ ad,v = .slice ad len len) Q) (hd:(Res.call (rowX len vs) []).den P hid Gr G K):Goal P o a W rd nn Q w0 G0 M E H hid K:=by
  refine Oper.wpIn_mono ?_ hg
  rintro a' W' ⟨v,rfl,⟨sv,hu,G',E',⟨rfl,rfl,rfl⟩,hr,hm,hag,hsim,hmH⟩,ad,hvv⟩
  refine ⟨v,rfl, ?_⟩
  obtain ⟨hv,a0,c0,hE⟩:=hr
  rw [hE,hvv] at hv
  obtain ⟨rfl,rfl⟩:ad = a0∧len = c0:=by cases hv;exact ⟨rfl,rfl⟩
  have hrow:updH H [(hid,some (.row none len vs t k))] hid = some (.row none len vs t k):=upd_same _ _ _
  obtain ⟨hown,hone,hmine⟩:=hsim.own hid _ hrow
  obtain ⟨b,hb⟩:∃ b, ∀ c,blkOf (E' hid) = some c→c = b:=by
   cases hbl:blkOf (E' hid) with
   | none=>exact ⟨0,fun c e=>by cases e⟩
   | some b=>exact ⟨b,fun c e=>by cases e;rfl⟩
  obtain ⟨G2,g1,g2,g3⟩:=hsim.publish (ob':=.row (some (E' hid)) len vs t k) hrow rfl hb ⟨hown,hone,hmine⟩ rfl
  have hpub:PubRow G2 ad len len vs:=by
   rcases hown.2 with ⟨e',hn⟩ | ⟨g,cap,cur,e',_,hw,hnc,_,hsz,htake⟩
   ·have hv0:vs = []:=List.eq_nil_of_length_eq_zero (by rw [hown.1,hn,Nat.zero_mul])
    exact ⟨by omega,fun h=>absurd hn h,fun j v hj=>by rw [hv0] at hj;simp at hj⟩
   ·rw [hE] at e'
    injection e' with e1 e2 e3
    subst e1 e3
    refine ⟨hnc,fun _=>rfl,fun j v hj=>?_⟩
    have:=g2 g (by rw [hE];rfl)
    rw [hw] at this
    simp only [rd1,ab_some,ao_some,this,Nat.zero_add]
    rw [← htake,List.getElem?_take] at hj
    split at hj
    ·simpa using hj
    ·cases hj
  have hlen:E' hid = .slice ad len len:=hE
  have hsim2:Sim w0 G0 E' H G2 W':=g3.drop (fun i ob e=>by
   have hne:i≠hid:=fun e'=>C.fresh (e' ▸ (C.mH i ob e).1)
   rw [upd_other _ _ hne]
   simp only [updH,upd_other _ _ hne];exact e)
  obtain ⟨sv',k1,k2,k3⟩:=fork_elim (hd.k (.slice ad len len) G2 g1 ⟨ad,rfl,hpub⟩).out (SV.of_rel E' _) (SV.of_ment M _)
  rw [hvv]
  exact ⟨sv',[],G2,E',k1,k2,SV.ment_mono (fun _ h=>.inl h) k3,hag,hsim2,fun h ob e=>⟨.inl (C.mH h ob e).1,OB.ment_mono (fun _ h=>.inl h) (C.mH h ob e).2⟩⟩
theorem op_bslx (C:Ctx w0 G0 Gr G M E H Hv hid fr a W) (T:Tab P) {t:TypeId} {k len:Nat} {zs:List Value} {xs:List (Nat × Opd)} (hc:compOp P o.op = some (.bsl t k len zs xs)) (hd:(ev T.get fr Hv hid (.bslx t k len zs xs)).den P hid Gr G K):Goal P o a W rd nn Q w0 G0 M E H hid K:=by
 obtain ⟨t',parts,zs',hop,h1,h2,h3,rfl,rfl,h4,h5⟩:=compOp_bslH hc
 simp only [ev] at hd
 split at hd
 case h_2=>exact hd.elim
 rename_i cs hlay
 split at hd
 case h_2=>exact hd.elim
 rename_i vs hvs
 cases h1':allOne cs with
 | false=>rw [h1'] at hd;exact hd.elim
 | true =>
  rw [h1'] at hd
  have hb:(ev T.get fr Hv hid (.bsl t zs'.length len (List.replicate len zs').flatten xs)).den P hid Gr G (fun sv hu G'=>sv = .c (.row hid len)∧hu = [(hid,some (.row none len vs t zs'.length))]∧G' = G):=by
   simp only [ev,hlay,hvs,h1',cond_true]
   exact ⟨rfl,rfl,rfl⟩
  exact op_pubx C (op_bslG C h1 h2 h3 h4 h5 hop hb) hd
theorem op_soundB (C:Ctx w0 G0 Gr G M E H Hv hid fr a W) (T:Tab P) {io:IOp} (hc:CompB P o.op io) (hd:(ev T.get fr Hv hid io).den P hid Gr G K):Goal P o a W rd nn Q w0 G0 M E H hid K:=by
 rcases hc with hc | ⟨io',hc,rfl⟩ | ⟨io',hc,rfl⟩ | ⟨io',hc,rfl⟩ | ⟨io',hc,rfl⟩
 ·exact op_sound C T hc hd
 ·cases io' with
  | bsl t k len zs xs=>exact op_bslp C T hc hd
  | mks t k bytes zs n=>exact op_mksp C T hc hd
  | _=>exact op_sound C T hc hd
 ·cases io' with
  | call f ys =>
   obtain ⟨args,ts,hop,hys⟩:=compOp_callH hc
   exact op_callv C (x:=.func f) (x':=.f f) rfl hys hop hd
  | _=>exact op_sound C T hc hd
 ·cases io' with
  | app e k by' s' x' =>
   obtain ⟨t,s,x,zs,hop,h1,h2,h3,h4,rfl,h6,h7,h8⟩:=compOp_appH hc
   exact op_apph C h1 h2 h3 h4 h6 h7 h8 hop hd
  | box t x =>
   obtain ⟨x0,hop,hx⟩:=compOp_boxH hc
   exact op_bxh C hx hop hd
  | mkm =>
   obtain ⟨t,hop⟩:=compOp_mkmH hc
   exact op_mkmh C hop hd
  | bsl t k len zs xs =>
   obtain ⟨t',parts,zs',hop,h1,h2,h3,rfl,rfl,h4,h5⟩:=compOp_bslH hc
   exact op_bslh C h1 h2 h3 h4 h5 hop hd
  | _=>exact op_sound C T hc hd
 ·cases io' with
  | call f ys =>
   obtain ⟨args,ts,hop,hys⟩:=compOp_callH hc
   cases ys with
   | nil=>exact op_sound C T hc hd
   | cons y ys=>exact op_cut C T hys hop hd
  | bsl t k len zs xs=>exact op_bslx C T hc hd
  | _=>exact op_sound C T hc hd

end
end Go.Pal

namespace Go.Pal
open Go.RowKit
inductive PubP (G:Hp) (n:Nat) (vs:List Value) (A:Option Addr→Nat→Hp→Prop) {k:Nat} {B:Nat→Nat→List Value→Prop}:Prop where
 | mk (h:∀ a c G',Grow G G'→PubRow G' a n c vs→W (A a c G'))
 | opn (h0:n≠0) (h:∀ b cap rest,n≤cap→cap≤maxLen→rest.length = (cap - n) * k→W (B b cap rest))
structure PubCP (G:Hp) (vs:List Value) (A:Nat→Hp→Prop):Prop where
 k:∀ b G',Grow G G'→CellsAt G' b 0 vs→W (A b G')
structure PubMP (G:Hp) (es:Array MapEntry) (c:Nat) (A:Nat→Hp→Prop):Prop where
 k:∀ b G',Grow G G'→G' b = some (.map es c)→W (A b G')
structure FinP (p:Prop):Prop where
 out:p

abbrev HK:=(Nat→Option OB)→Hp→Prop

def rowK (H:Nat→Option OB) (G:Hp) (h:Nat) (K:Value→HK):Prop:=match H h with
 | some (.row (some v) _ _ _ _)=>K v H G
 | some (.row none n vs t k)=>PubP G n vs (k:=k) (B:=fun _ _ _=>False) fun a c G'=>K (.slice a n c) (upd H h (some (.row (some (.slice a n c)) n vs t k))) G'
 | some (.xrow b n cap vs _ t k)=>PubP G n vs (k:=k) (B:=fun _ _ _=>K (.slice (some ⟨b,0,none⟩) n cap) H G) fun a c G'=>K (.slice a n c) (upd H h (some (.row (some (.slice a n c)) n vs t k))) G'
 | _=>False

def c1K (H:Nat→Option OB) (G:Hp) (x:S1) (K:Value→HK):Prop:=match x with
 | .val v=>K v H G
 | .sb b=>K (.bool b) H G
 | .row h _=>rowK H G h K
 | .mref h=>match H h with
  | some (.map _ es c)=>PubMP G es c fun b G'=>K (.map (some b)) (upd H h none) G'
  | _=>False
 | _=>False

def clK (H:Nat→Option OB) (G:Hp):List S1→(List Value→HK)→Prop
 | [],K=>K [] H G
 | c :: cs,K=>c1K H G c fun v H1 G1=>clK H1 G1 cs fun vs H2 G2=>K (v :: vs) H2 G2

def closeK (H:Nat→Option OB) (G:Hp) (sv:SV) (K:Value→HK):Prop:=match sv with
 | .agg cs=>clK H G cs fun vs H1 G1=>K (.agg vs.toArray) H1 G1
 | .c (.ptr h off)=>match H h with
  | some (.cells (.pub b) _ _)=>K (.pointer (some ⟨b,off,none⟩)) H G
  | some (.cells (.named b) _ _)=>K (.pointer (some ⟨b,off,none⟩)) H G
  | some (.cells .anon cs t)=>clK H G cs fun vs H1 G1=>match H1 h with
   | some (.cells .anon _ _)=>PubCP G1 vs fun b G'=>K (.pointer (some ⟨b,off,none⟩)) (upd H1 h (some (.cells (.pub b) (vs.map .val) t))) G'
   | _=>False
  | _=>False
 | .c x=>c1K H G x K

section
variable {w0:Root} {W:World} {G0 G:Hp} {E:Nat→Value} {H:Nat→Option OB} {M:Nat→Prop}

structure Good (w0:Root) (G0:Hp) (M:Nat→Prop) (E:Nat→Value) (W:World) (H:Nat→Option OB) (G:Hp):Prop where
 sim:Sim w0 G0 E H G W
 mH:∀ h ob,H h = some ob→M h∧ob.ment M

theorem Good.upd (hg:Good w0 G0 M E W H G) {h:Nat} {ob ob':OB} {G':Hp} (hh:H h = some ob) (hs:Sim w0 G0 E (upd H h (some ob')) G' W) (hm:ob'.ment M):Good w0 G0 M E W (upd H h (some ob')) G':=by
 refine ⟨hs,fun k ob2 e=>?_⟩
 by_cases hk:k = h
 ·subst hk;rw [upd_same] at e;cases e;exact ⟨(hg.mH _ _ hh).1,hm⟩
 ·rw [upd_other _ _ hk] at e;exact hg.mH k ob2 e

theorem rowK_pub (hg:Good w0 G0 M E W H G) {h n:Nat} {vs:List Value} {t:TypeId} {k:Nat} {ob:OB} {K:Value→HK} (e:H h = some ob) (hp:ob.pub = none) (hhas:∀ c,ob.has (E h) c↔blkOf (E h) = some c) (hown:W.ownsRow 0 t k (E h) n vs) (h1:(∀ v∈vs,v.oneCell' = true)∧∀ b,blkOf (E h) = some b→w0.mine b)
  (hk:∀ a c G',Grow G G'→PubRow G' a n c vs→Pal.W (K (.slice a n c) (upd H h (some (.row (some (.slice a n c)) n vs t k))) G')):∃ H' G',K (E h) H' G'∧Grow G G'∧Good w0 G0 M E W H' G'∧(∀ k,(H k).isSome→(H' k).isSome):=by
 have hsl:∃ a c,E h = .slice a n c:=by
  rcases hown.2 with ⟨e',rfl⟩ | ⟨g,cap,cur,e',_⟩
  ·exact ⟨_,_,e'⟩
  ·exact ⟨_,_,e'⟩
 obtain ⟨a,c,ea⟩:=hsl
 obtain ⟨b,hb⟩:∃ b, ∀ c,blkOf (E h) = some c→c = b:=by
  cases hbl:blkOf (E h) with
  | none=>exact ⟨0,fun c e=>by cases e⟩
  | some b=>exact ⟨b,fun c e=>by cases e;rfl⟩
 obtain ⟨G',g1,g2,g3⟩:=hg.sim.publish (ob':=.row (some (E h)) n vs t k) e hp hb ⟨hown,h1⟩ rfl hhas
 have hpub:PubRow G' a n c vs:=by
  rcases hown.2 with ⟨e',hn⟩ | ⟨g,cap,cur,e',_,hw,hnc,_,hsz,htake⟩
  ·have hv:vs = []:=List.eq_nil_of_length_eq_zero (by rw [hown.1,hn,Nat.zero_mul])
   exact ⟨by omega,fun h=>absurd hn h,fun j v hj=>by rw [hv] at hj;simp at hj⟩
  ·rw [ea] at e';cases e'
   refine ⟨hnc,fun _=>rfl,fun j v hj=>?_⟩
   have:=g2 g (by rw [ea];rfl)
   rw [hw] at this
   simp only [rd1,ab_some,ao_some,this,Nat.zero_add]
   rw [← htake,List.getElem?_take] at hj
   split at hj
   ·simpa using hj
   ·cases hj
 have hkk:=(hk a c G' g1 hpub).out
 rw [ea] at g3
 refine ⟨_,G',by rw [ea];exact hkk,g1,hg.upd e g3 trivial, ?_⟩
 intro k hk2
 by_cases hkk:k = h
 ·subst hkk;rw [upd_same];rfl
 ·rw [upd_other _ _ hkk];exact hk2

theorem rowK_sound (hg:Good w0 G0 M E W H G) {h:Nat} {K:Value→HK} (hk:rowK H G h K):∃ H' G',K (E h) H' G'∧Grow G G'∧Good w0 G0 M E W H' G'∧(∀ k,(H k).isSome→(H' k).isSome):=by
 unfold rowK at hk
 split at hk
 ·rename_i v _ _ _ _ e
  have:=(hg.sim.pub h _ v e rfl).1
  exact ⟨H,G,this ▸ hk,Grow.refl _,hg,fun _ h=>h⟩
 ·rename_i n vs t k e
  obtain ⟨hown,h1⟩:=hg.sim.own h _ e
  cases hk with
  | mk hk=>exact rowK_pub hg e rfl (fun _=>Iff.rfl) hown h1 hk
  | opn h0 hk=>exact (by
    rcases hown.2 with ⟨_,rfl⟩ | ⟨g,cap,cur,_,_,_,q1,q2,_⟩
    ·exact absurd rfl h0
    ·exact ((hk 0 cap (List.replicate ((cap - n) * k) undef) q1 q2 (by simp)).out).elim)
 ·rename_i b n cap vs rest t k e
  obtain ⟨hown,h1⟩:=OB.xrow_own (hg.sim.own h _ e)
  cases hk with
  | mk hk=>exact rowK_pub hg e rfl (fun _=>Iff.rfl) hown h1 hk
  | opn h0 hk =>
   obtain ⟨e1,_,_,_,_,q1,q2,_⟩:=hg.sim.own h _ e
   exact ⟨H,G,e1 ▸ (hk 0 cap (List.replicate ((cap - n) * k) undef) q1 q2 (by simp)).out,Grow.refl _,hg,fun _ h=>h⟩
 ·exact hk.elim

theorem c1K_sound (hg:Good w0 G0 M E W H G) {x:S1} {v:Value} {K:Value→HK} (hr:x.rel E v) (hk:c1K H G x K):∃ H' G',K v H' G'∧Grow G G'∧Good w0 G0 M E W H' G':=by
 cases x with
 | val u=>cases hr;exact ⟨H,G,hk,Grow.refl _,hg⟩
 | sb b=>cases hr;exact ⟨H,G,hk,Grow.refl _,hg⟩
 | row h n =>
  obtain ⟨H',G',h1,h2,h3,_⟩:=rowK_sound hg hk
  exact ⟨H',G',hr.1 ▸ h1,h2,h3⟩
 | any=>exact hk.elim
 | pos=>exact hk.elim
 | ptr=>exact hk.elim
 | rptr=>exact hk.elim
 | mref h =>
  simp only [c1K] at hk
  split at hk
  ·rename_i s es c e
   obtain ⟨b,G',e1,g1,g2,g3⟩:=hg.sim.mapPub e
   obtain ⟨q1,_⟩:=hr
   refine ⟨_,G', ?_,g1,⟨g3,fun k ob e2=>?_⟩⟩
   ·rw [q1,e1];exact (hk.k b G' g1 g2).out
   ·by_cases hk:k = h
    ·subst hk;rw [upd_same] at e2;cases e2
    ·rw [upd_other _ _ hk] at e2;exact hg.mH k ob e2
  ·exact hk.elim
 | ptrx=>exact hk.elim
 | pre=>exact hk.elim

theorem clK_sound:∀ {cs:List S1} {vs:List Value} {H:Nat→Option OB} {G:Hp} {K:List Value→HK},Good w0 G0 M E W H G→relL E cs vs→clK H G cs K→∃ H' G',K vs H' G'∧Grow G G'∧Good w0 G0 M E W H' G'
 | [],[],H,G,K,hg,_,hk=>⟨H,G,hk,Grow.refl _,hg⟩
 | c :: cs,v :: vs,H,G,K,hg,hr,hk=>by
  obtain ⟨H1,G1,k1,g1,hg1⟩:=c1K_sound hg hr.1 hk
  obtain ⟨H2,G2,k2,g2,hg2⟩:=clK_sound hg1 hr.2 k1
  exact ⟨H2,G2,k2,g1.trans g2,hg2⟩
 | [],_ :: _,_,_,_,_,hr,_=>hr.elim
 | _ :: _,[],_,_,_,_,hr,_=>hr.elim

theorem closeK_sound (hg:Good w0 G0 M E W H G) {sv:SV} {v:Value} {K:Value→HK} (hr:sv.rel E v) (hk:closeK H G sv K):∃ H' G',K v H' G'∧Grow G G'∧Good w0 G0 M E W H' G':=by
 unfold closeK at hk
 split at hk
 ·obtain ⟨vs,rfl,hr⟩:=hr
  exact clK_sound hg hr hk
 ·rename_i h off
  obtain ⟨b,e1,rfl⟩:=hr
  split at hk
  ·rename_i b' _ _ e
   have:=(hg.sim.pub h _ _ e rfl).1
   rw [e1] at this;cases this
   exact ⟨H,G,hk,Grow.refl _,hg⟩
  ·rename_i b' _ _ e
   have:=hg.sim.name e (v:=.pointer (some ⟨b',0,none⟩)) rfl
   rw [e1] at this;cases this
   exact ⟨H,G,hk,Grow.refl _,hg⟩
  ·rename_i cs t e
   obtain ⟨b',vs,e2,hb',hw,hrl,h1,_⟩:=hg.sim.own h _ e
   rw [e1] at e2;cases e2
   obtain ⟨H1,G1,k1,g1,hg1⟩:=clK_sound hg hrl hk
   split at k1
   ·rename_i cs' t' eH1
    obtain ⟨b2,vs2,e2,hb2,hw2,hrl2,_⟩:=hg1.sim.own h _ eH1
    rw [e1] at e2;cases e2
    obtain ⟨G',p1,p2,p3⟩:=hg1.sim.publish (b:=b) (ob':=.cells (.pub b) (vs.map .val) t) eH1 rfl (fun c ec=>by rw [e1] at ec;simp [blkOf] at ec;exact ec.symm)
     ⟨b,vs,e1,hb',hw,relL_vals E vs,h1,rfl⟩ (by rw [e1];rfl)
    refine ⟨_,G',(k1.k b G' p1 ?_).out,g1.trans p1, ?_⟩
    ·intro j v hj
     have:=p2 b (by rw [e1];rfl)
     rw [hw] at this
     simp only [rd1,this,Nat.zero_add]
     simpa using hj
    ·exact hg1.upd eH1 p3 (fun c hc=>by obtain ⟨v,_,rfl⟩:=List.mem_map.1 hc;trivial)
   ·exact k1.elim
  ·exact hk.elim
 ·exact c1K_sound hg hr hk
end


/-! ### Publishing what calls will be given -/

def pubR (H:Nat→Option OB) (G:Hp) (h:Nat) (K:HK):Prop:=match H h with
 | some (.row none n vs t k)=>PubP G n vs (k:=k) (B:=fun b cap rest=>K (upd H h (some (.xrow b n cap vs rest t k))) G) fun a c G'=>K (upd H h (some (.row (some (.slice a n c)) n vs t k))) G'
 | _=>K H G
def pubL (H:Nat→Option OB) (G:Hp):List S1→HK→Prop
 | [],K=>K H G
 | .row h _ :: r,K=>pubR H G h fun H' G'=>pubL H' G' r K
 | _ :: r,K=>pubL H G r K
def pubV (H:Nat→Option OB) (G:Hp) (sv:SV) (K:HK):Prop:=match sv with
 | .c (.row h _)=>pubR H G h K
 | .agg cs=>pubL H G cs K
 | .c (.ptr h _)=>match H h with
  | some (.cells s cs _)=>cond s.own (pubL H G cs K) (K H G)
  | _=>K H G
 | _=>K H G
def pubS (fr:Nat→SV) (H:Nat→Option OB) (G:Hp):List Nat→HK→Prop
 | [],K=>K H G
 | i :: r,K=>pubV H G (fr i) fun H' G'=>pubS fr H' G' r K

/-! ### Naming what function values will hold -/

structure NameP (A:Nat→Prop):Prop where
 k:∀ b,W (A b)
def namR (H:Nat→Option OB) (h:Nat) (K:(Nat→Option OB)→Prop):Prop:=match H h with
 | some (.cells .anon cs t)=>NameP fun b=>K (upd H h (some (.cells (.named b) cs t)))
 | some (.map .anon es c)=>NameP fun b=>K (upd H h (some (.map (.named b) es c)))
 | _=>K H
def namM (H:Nat→Option OB):List S1→((Nat→Option OB)→Prop)→Prop
 | [],K=>K H
 | .mref h :: r,K=>namR H h fun H'=>namM H' r K
 | _ :: r,K=>namM H r K
def namV (H:Nat→Option OB) (sv:SV) (K:(Nat→Option OB)→Prop):Prop:=match sv with
 | .c (.ptr h _)=>namR H h fun H'=>match H' h with
  | some (.cells (.named _) cs _)=>namM H' cs K
  | _=>K H'
 | .c (.mref h)=>namR H h K
 | _=>K H
def namS (fr:Nat→SV) (H:Nat→Option OB):List Nat→((Nat→Option OB)→Prop)→Prop
 | [],K=>K H
 | i :: r,K=>namV H (fr i) fun H'=>namS fr H' r K

section
variable {w0:Root} {W:World} {G0 G:Hp} {E:Nat→Value} {H:Nat→Option OB} {M:Nat→Prop}

theorem good_rename (hg:Good w0 G0 M E W H G) {h:Nat} {ob ob':OB} (hh:H h = some ob) (hp:ob.pub = none) (hp':ob'.pub = none) (hok:ob'.ok w0 E W h) (hm:ob'.ment M) (hhas:∀ b,ob'.has (E h) b→ob.has (E h) b:=by exact fun _ h=>h):Good w0 G0 M E W (upd H h (some ob')) G:=by
 have hs:=hg.sim
 have back:∀ k ob2,upd H h (some ob') k = some ob2→(k = h∧ob2 = ob')∨(k≠h∧H k = some ob2):=fun k ob2 e=>by
  by_cases hk:k = h
  ·subst hk;rw [upd_same] at e;cases e;exact .inl ⟨rfl,rfl⟩
  ·rw [upd_other _ _ hk] at e;exact .inr ⟨hk,e⟩
 refine ⟨⟨hs.below,hs.sub,hs.newG, ?_, ?_, ?_, ?_⟩, ?_⟩
 ·intro k ob2 e
  rcases back k ob2 e with ⟨rfl,rfl⟩ | ⟨_,e⟩
  ·exact hok
  ·exact hs.own k ob2 e
 ·intro k ob2 v e e2
  rcases back k ob2 e with ⟨rfl,rfl⟩ | ⟨_,e⟩
  ·rw [hp'] at e2;cases e2
  ·exact hs.pub k ob2 v e e2
 ·intro k ob2 e e2
  rcases back k ob2 e with ⟨rfl,rfl⟩ | ⟨_,e⟩
  ·exact fun b hb=>hs.priv k ob hh hp b (hhas b hb)
  ·exact hs.priv k ob2 e e2
 ·intro k ob2 k' ob3 b e e2 e3 e4 e5
  rcases back k ob2 e with ⟨q1,q2⟩ | ⟨_,f⟩<;>rcases back k' ob3 e2 with ⟨q3,q4⟩ | ⟨_,f2⟩
  ·rw [q1,q3]
  ·subst q1;subst q2;exact hs.inj k ob k' ob3 b hh f2 hp (hhas b e4) e5
  ·subst q3;subst q4;exact hs.inj k ob2 k' ob b f hh e3 e4 (hhas b e5)
  ·exact hs.inj k ob2 k' ob3 b f f2 e3 e4 e5
 ·intro k ob2 e
  rcases back k ob2 e with ⟨rfl,rfl⟩ | ⟨_,e⟩
  ·exact ⟨(hg.mH _ _ hh).1,hm⟩
  ·exact hg.mH k ob2 e

theorem namR_sound (hg:Good w0 G0 M E W H G) {h:Nat} {K:(Nat→Option OB)→Prop} (hk:namR H h K):∃ H',K H'∧Good w0 G0 M E W H' G:=by
 unfold namR at hk
 split at hk
 ·rename_i cs t e
  obtain ⟨b,vs,e1,e2,e3,e4,e5,_⟩:=hg.sim.own h _ e
  exact ⟨_,(hk.k b).out,good_rename hg (ob':=.cells (.named b) cs t) e rfl rfl ⟨b,vs,e1,e2,e3,e4,e5,rfl⟩ (hg.mH h _ e).2⟩
 ·rename_i es c e
  obtain ⟨b,e1,e2,e3,_⟩:=hg.sim.own h _ e
  exact ⟨_,(hk.k b).out,good_rename hg (ob':=.map (.named b) es c) e rfl rfl ⟨b,e1,e2,e3,rfl⟩ trivial⟩
 ·exact ⟨H,hk,hg⟩
theorem namM_sound:∀ {cs:List S1} {H:Nat→Option OB} {K:(Nat→Option OB)→Prop},Good w0 G0 M E W H G→namM H cs K→∃ H',K H'∧Good w0 G0 M E W H' G
 | [],H,K,hg,hk=>⟨H,hk,hg⟩
 | c :: cs,H,K,hg,hk=>by
  cases c with
  | mref h =>
   obtain ⟨H1,k1,g1⟩:=namR_sound hg hk
   exact namM_sound g1 k1
  | _=>exact namM_sound (cs:=cs) hg hk
theorem namS_sound {fr:Nat→SV}:∀ {l:List Nat} {H:Nat→Option OB} {K:(Nat→Option OB)→Prop},Good w0 G0 M E W H G→namS fr H l K→∃ H',K H'∧Good w0 G0 M E W H' G
 | [],H,K,hg,hk=>⟨H,hk,hg⟩
 | i :: r,H,K,hg,hk=>by
  simp only [namS,namV] at hk
  split at hk
  ·obtain ⟨H1,k1,g1⟩:=namR_sound hg hk
   split at k1
   ·obtain ⟨H2,k2,g2⟩:=namM_sound g1 k1
    exact namS_sound g2 k2
   ·exact namS_sound g1 k1
  ·obtain ⟨H1,k1,g1⟩:=namR_sound hg hk
   exact namS_sound g1 k1
  ·exact namS_sound hg hk

theorem pubR_sound (hg:Good w0 G0 M E W H G) {h:Nat} {K:HK} (hk:pubR H G h K):∃ H' G',K H' G'∧Grow G G'∧Good w0 G0 M E W H' G':=by
 unfold pubR at hk
 split at hk
 ·rename_i n vs t k e
  obtain ⟨hown,h1,h2⟩:=hg.sim.own h _ e
  cases hk with
  | mk hk =>
   obtain ⟨H',G',q1,q2,q3,_⟩:=rowK_pub (K:=fun v H' G'=>K H' G') hg e rfl (fun _=>Iff.rfl) hown ⟨h1,h2⟩ hk
   exact ⟨H',G',q1,q2,q3⟩
  | opn h0 hk =>
   rcases hown.2 with ⟨_,rfl⟩ | ⟨g,cap,cur,e',_,hw,q1,q2,q3,q4⟩
   ·exact absurd rfl h0
   ·have hlen:n * k≤cap * k:=Nat.mul_le_mul_right _ q1
    have hcur:vs++cur.toList.drop (n * k) = cur.toList:=by
     have h4:cur.toList.take (n * k) = vs:=by simpa using q4
     rw [← h4,List.take_append_drop]
    refine ⟨_,G,(hk g cap (cur.toList.drop (n * k)) q1 q2 (by simp only [List.length_drop,Array.length_toList,Nat.sub_mul];omega)).out,Grow.refl _, ?_⟩
    exact good_rename hg (ob':=.xrow g n cap vs (cur.toList.drop (n * k)) t k) e rfl rfl ⟨e',h2 g (by rw [e'];rfl),by rw [hcur];simpa using hw,hown.1,by simp only [List.length_drop,Array.length_toList,Nat.sub_mul];omega,q1,q2,h1⟩ trivial
 ·exact ⟨H,G,hk,Grow.refl _,hg⟩
theorem pubL_sound:∀ {cs:List S1} {H:Nat→Option OB} {G:Hp} {K:HK},Good w0 G0 M E W H G→pubL H G cs K→∃ H' G',K H' G'∧Grow G G'∧Good w0 G0 M E W H' G'
 | [],H,G,K,hg,hk=>⟨H,G,hk,Grow.refl _,hg⟩
 | c :: cs,H,G,K,hg,hk=>by
  cases c with
  | row h n =>
   obtain ⟨H1,G1,k1,g1,hg1⟩:=pubR_sound hg hk
   obtain ⟨H2,G2,k2,g2,hg2⟩:=pubL_sound hg1 k1
   exact ⟨H2,G2,k2,g1.trans g2,hg2⟩
  | _=>exact pubL_sound (cs:=cs) hg hk
theorem pubV_sound (hg:Good w0 G0 M E W H G) {sv:SV} {K:HK} (hk:pubV H G sv K):∃ H' G',K H' G'∧Grow G G'∧Good w0 G0 M E W H' G':=by
 unfold pubV at hk
 split at hk
 ·exact pubR_sound hg hk
 ·exact pubL_sound hg hk
 ·split at hk
  ·rename_i s cs t _
   cases hs:s.own with
   | true=>rw [hs] at hk;exact pubL_sound hg hk
   | false=>rw [hs] at hk;exact ⟨H,G,hk,Grow.refl _,hg⟩
  ·exact ⟨H,G,hk,Grow.refl _,hg⟩
 ·exact ⟨H,G,hk,Grow.refl _,hg⟩
theorem pubS_sound {fr:Nat→SV}:∀ {l:List Nat} {H:Nat→Option OB} {G:Hp} {K:HK},Good w0 G0 M E W H G→pubS fr H G l K→∃ H' G',K H' G'∧Grow G G'∧Good w0 G0 M E W H' G'
 | [],H,G,K,hg,hk=>⟨H,G,hk,Grow.refl _,hg⟩
 | i :: r,H,G,K,hg,hk=>by
  obtain ⟨H1,G1,k1,g1,hg1⟩:=pubV_sound hg hk
  obtain ⟨H2,G2,k2,g2,hg2⟩:=pubS_sound hg1 k1
  exact ⟨H2,G2,k2,g1.trans g2,hg2⟩

theorem Sat.pub {n:Nat} {σ:St} {a:Act} {H':Nat→Option OB} {G':Hp} (hs:Sat w0 G0 n M E σ a W) (hg:Good w0 G0 M E W H' G'):Sat w0 G0 n M E ⟨σ.fr,H',G'⟩ a W:=⟨hg.sim,hs.mfr,hg.mH,hs.fr,hs.size,hs.defers⟩
end

/-! ### What calls look at -/

def Opd.looks:Opd→List Nat
 | .t i=>[i]
 | _=>[]
def looksL:List Opd→List Nat
 | []=>[]
 | x :: r=>x.looks++looksL r
def IOp.isCallv:IOp→Bool
 | .callv ..=>true
 | _=>false
def callLooks:IOp→List Nat
 | .call _ args=>looksL args
 | .callv _ args=>looksL args
 | .slc _ x _ _ _=>x.looks
 | .mkf _ first _=>looksL first
 | _=>[]
theorem pubR_mono {H:Nat→Option OB} {G:Hp} {h:Nat} {K K':HK} (hk:∀ H G,K H G→K' H G) (h1:pubR H G h K):pubR H G h K':=by
 unfold pubR at *
 split at h1
 ·cases h1 with
  | mk h1=>exact .mk fun a c G' hg hp=>⟨hk _ _ (h1 a c G' hg hp).out⟩
  | opn h0 h1=>exact .opn h0 fun b cap rest g1 g2 g3=>⟨hk _ _ (h1 b cap rest g1 g2 g3).out⟩
 ·exact hk _ _ h1
theorem pubL_mono {K K':HK} (hk:∀ H G,K H G→K' H G):∀ {cs:List S1} {H:Nat→Option OB} {G:Hp},pubL H G cs K→pubL H G cs K'
 | [],_,_,h=>hk _ _ h
 | c :: cs,H,G,h=>by
  cases c with
  | row i n=>exact pubR_mono (fun H G h=>pubL_mono hk h) h
  | _=>exact pubL_mono (cs:=cs) hk h
theorem pubV_mono {H:Nat→Option OB} {G:Hp} {sv:SV} {K K':HK} (hk:∀ H G,K H G→K' H G) (h:pubV H G sv K):pubV H G sv K':=by
 unfold pubV at *
 split at h
 ·exact pubR_mono hk h
 ·exact pubL_mono hk h
 ·split at h
  ·rename_i s _ _ _
   cases hs:s.own with
   | true=>rw [hs] at h;exact pubL_mono hk h
   | false=>rw [hs] at h;exact hk _ _ h
  ·exact hk _ _ h
 ·exact hk _ _ h
theorem pubS_mono {fr:Nat→SV} {K K':HK} (hk:∀ H G,K H G→K' H G):∀ {l:List Nat} {H:Nat→Option OB} {G:Hp},pubS fr H G l K→pubS fr H G l K'
 | [],_,_,h=>hk _ _ h
 | _ :: _,_,_,h=>pubV_mono (fun H G h=>pubS_mono hk h) h
def pubN (H:Nat→Option OB) (G:Hp):List Nat→HK→Prop
 | [],A=>W (A H G)
 | h :: r,A=>match H h with
  | some (.cells (.named b) cs t)=>clK H G cs fun vs H1 G1=>match H1 h with
   | some (.cells (.named b1) _ _)=>∀ G',Grow G1 G'→b1 = b→CellsAt G' b 0 vs→pubN (upd H1 h (some (.cells (.pub b) (vs.map .val) t))) G' r A
   | _=>False
  | some (.cells .anon cs t)=>clK H G cs fun vs H1 G1=>match H1 h with
   | some (.cells .anon _ _)=>∀ b G',Grow G1 G'→CellsAt G' b 0 vs→pubN (upd H1 h (some (.cells (.pub b) (vs.map .val) t))) G' r A
   | _=>False
  | some (.heap p)=>∀ G',Grow G G'→(∀ b o,p b = some o→G' b = some o)→pubN (upd H h none) G' r A
  | _=>False
structure PubAnyP (H:Nat→Option OB) (G:Hp) (A:HK):Prop where
 ex:∃ hs,pubN H G hs A
theorem pubN_sound {w0:Root} {W:World} {G0:Hp} {M:Nat→Prop} {E:Nat→Value}:∀ {hs:List Nat} {H:Nat→Option OB} {G:Hp} {A:HK},Good w0 G0 M E W H G→pubN H G hs A→∃ H' G',A H' G'∧Grow G G'∧Good w0 G0 M E W H' G'
 | [],H,G,A,hg,hk=>⟨H,G,hk.out,Grow.refl _,hg⟩
 | h :: r,H,G,A,hg,hk=>by
  simp only [pubN] at hk
  split at hk
  case h_4=>exact hk.elim
  case h_3 =>
   rename_i p e
   obtain ⟨G',g1,g2,g3⟩:=hg.sim.heapPub e
   obtain ⟨H2,G2,k2,g4,hg2⟩:=pubN_sound (H:=upd H h none) ⟨g3,fun k ob e2=>by
    by_cases hk:k = h
    ·subst hk;rw [upd_same] at e2;cases e2
    ·rw [upd_other _ _ hk] at e2;exact hg.mH k ob e2⟩ (hk G' g1 g2)
   exact ⟨H2,G2,k2,g1.trans g4,hg2⟩
  rotate_left
  ·rename_i cs t e
   obtain ⟨b,vs,e1,hb',hw,hrl,h1,_⟩:=hg.sim.own h _ e
   obtain ⟨H1,G1,k1,g1,hg1⟩:=clK_sound hg hrl hk
   split at k1
   case h_2=>exact k1.elim
   rename_i cs' t' eH1
   obtain ⟨b2,vs2,e2,hb2,hw2,hrl2,h12,_⟩:=hg1.sim.own h _ eH1
   rw [e1] at e2
   injection e2 with e2
   injection e2 with e2
   injection e2 with e2 _
   subst e2
   obtain ⟨G',p1,p2,p3⟩:=hg1.sim.publish (b:=b) (ob':=.cells (.pub b) (vs.map .val) t) eH1 rfl (fun c ec=>by rw [e1] at ec;simp [blkOf] at ec;exact ec.symm)
    ⟨b,vs,e1,hb',hw,relL_vals E vs,h1,rfl⟩ (by rw [e1];rfl)
   have hc:CellsAt G' b 0 vs:=by
    intro j v hj
    have:=p2 b (by rw [e1];rfl)
    rw [hw] at this
    simp only [rd1,this,Nat.zero_add]
    simpa using hj
   obtain ⟨H2,G2,k2,g2,hg2⟩:=pubN_sound (hg1.upd eH1 p3 (fun c hc=>by obtain ⟨v,_,rfl⟩:=List.mem_map.1 hc;trivial)) (k1 b G' p1 hc)
   exact ⟨H2,G2,k2,(g1.trans p1).trans g2,hg2⟩
  rename_i b cs t e
  obtain ⟨b',vs,e1,hb',hw,hrl,h1,e6⟩:=hg.sim.own h _ e
  have e6:b = b':=e6
  subst e6
  obtain ⟨H1,G1,k1,g1,hg1⟩:=clK_sound hg hrl hk
  split at k1
  case h_2=>exact k1.elim
  rename_i b1 cs' t' eH1
  obtain ⟨b2,vs2,e2,hb2,hw2,hrl2,h12,e62⟩:=hg1.sim.own h _ eH1
  rw [e1] at e2
  injection e2 with e2
  injection e2 with e2
  injection e2 with e2 _
  subst e2
  have e62:b1 = b:=e62
  subst e62
  obtain ⟨G',p1,p2,p3⟩:=hg1.sim.publish (b:=b1) (ob':=.cells (.pub b1) (vs.map .val) t) eH1 rfl (fun c ec=>by rw [e1] at ec;simp [blkOf] at ec;exact ec.symm)
   ⟨b1,vs,e1,hb',hw,relL_vals E vs,h1,rfl⟩ (by rw [e1];rfl)
  have hc:CellsAt G' b1 0 vs:=by
   intro j v hj
   have:=p2 b1 (by rw [e1];rfl)
   rw [hw] at this
   simp only [rd1,this,Nat.zero_add]
   simpa using hj
  obtain ⟨H2,G2,k2,g2,hg2⟩:=pubN_sound (hg1.upd eH1 p3 (fun c hc=>by obtain ⟨v,_,rfl⟩:=List.mem_map.1 hc;trivial)) (k1 G' p1 rfl hc)
  exact ⟨H2,G2,k2,(g1.trans p1).trans g2,hg2⟩
def IOp.isSl:IOp→Bool
 | .pur (.slcS ..) _=>true
 | _=>false
def pubX (x:Bool) (fr:Nat→SV) (H:Nat→Option OB) (G:Hp) (l:List Nat) (K:HK):Prop:=match x with
 | true=>PubAnyP H G fun H' G'=>pubS fr H' G' l K
 | false=>pubS fr H G l K
end Go.Pal

namespace Go.Pal
open Go.RowKit

structure IOper where
 dst:Option Nat
 op:IOp
 guard:Option (Nat × Bool)
 hid:Nat
 al:Option (List Nat)
 early:Bool
 deps:List Nat
 loc:Bool

def memN (x:Nat):List Nat→Bool
 | []=>false
 | y :: ys=>cond (Nat.beq x y) true (memN x ys)

def view (bd:Nat) (o:IOper) (H:Nat→Option OB):Nat→Option OB:=match o.al with
 | none=>H
 | some l=>fun h=>cond ((!o.loc && Nat.blt h bd) || memN h l) (H h) none

def St.app (σ:St) (dst:Option Nat) (sv:SV) (hu:List (Nat × Option OB)) (G':Hp):St :=
 ⟨match dst with
  | some d=>upd σ.fr d sv
  | none=>σ.fr,updH σ.H hu,G'⟩

def guardK (o:IOper) (σ:St) (f:Bool→Prop):Prop:=match o.guard with
 | none=>f true
 | some (g,w)=>match σ.fr g with
  | .c (.val (.bool true))=>f w
  | .c (.val (.bool false))=>f (!w)
  | .c (.val (.tuple _))=>f false
  | _=>False

def undefSV:SV:=.v undef

def TI (P:Program) (tab:FuncId→Option PSpec) (bd:Nat) (B:Hp) (o:IOper) (σ:St) (K:St→Prop):Prop :=
 guardK o σ fun run=>match run with
  | true=>(ev tab σ.fr (view bd o σ.H) o.hid o.op).den P o.hid (cond o.early B σ.G) σ.G fun sv hu G'=>K (σ.app o.dst sv hu G')
  | false=>K (σ.app o.dst undefSV [] σ.G)
def guardF (g:Option (Nat × Bool)) (fr:Nat→SV) (f:Bool→Prop):Prop:=match g with
 | none=>f true
 | some (g,w)=>match fr g with
  | .c (.val (.bool true))=>f w
  | .c (.val (.bool false))=>f (!w)
  | .c (.val (.tuple _))=>f false
  | _=>False
def appK (dst:Option Nat) (fr:Nat→SV) (H:Nat→Option OB) (K:St→Prop) (sv:SV) (hu:List (Nat × Option OB)) (G':Hp):Prop :=
 match dst,hu with
 | some d,[]=>K ⟨upd fr d sv,H,G'⟩
 | none,[]=>K ⟨fr,H,G'⟩
 | some d,[(h,ob)]=>K ⟨upd fr d sv,upd H h ob,G'⟩
 | none,[(h,ob)]=>K ⟨fr,upd H h ob,G'⟩
 | some d,hu=>K ⟨upd fr d sv,updH H hu,G'⟩
 | none,hu=>K ⟨fr,updH H hu,G'⟩
def TF (P:Program) (tab:FuncId→Option PSpec) (bd:Nat) (B:Hp) (o:IOper) (σ:St) (K:St→Prop):Prop :=
 match o, σ with
 | ⟨dst,op,g,hid,none,false,_,_⟩,⟨fr,H,G⟩=>guardF g fr fun run=>match run with
  | true=>(ev tab fr H hid op).den P hid G G (appK dst fr H K)
  | false=>appK dst fr H K undefSV [] G
 | ⟨dst,op,g,hid,some l,false,_,lc⟩,⟨fr,H,G⟩=>guardF g fr fun run=>match run with
  | true=>(ev tab fr (fun h=>cond ((!lc && Nat.blt h bd) || memN h l) (H h) none) hid op).den P hid G G (appK dst fr H K)
  | false=>appK dst fr H K undefSV [] G
 | ⟨dst,op,g,hid,some l,true,_,lc⟩,⟨fr,H,G⟩=>guardF g fr fun run=>match run with
  | true=>(ev tab fr (fun h=>cond ((!lc && Nat.blt h bd) || memN h l) (H h) none) hid op).den P hid B G (appK dst fr H K)
  | false=>appK dst fr H K undefSV [] G
 | ⟨dst,op,g,hid,none,true,_,_⟩,⟨fr,H,G⟩=>guardF g fr fun run=>match run with
  | true=>(ev tab fr H hid op).den P hid B G (appK dst fr H K)
  | false=>appK dst fr H K undefSV [] G

theorem appK_eq (dst:Option Nat) (σ:St) (K:St→Prop):appK dst σ.fr σ.H K = fun sv hu G'=>K (σ.app dst sv hu G'):=by
 funext sv hu G'
 cases dst<;>rcases hu with _ | ⟨⟨h,ob⟩,_ | ⟨p,r⟩⟩<;>rfl
theorem TF_eq (P:Program) (tab:FuncId→Option PSpec) (bd:Nat) (B:Hp) (o:IOper) (σ:St) (K:St→Prop):TF P tab bd B o σ K = TI P tab bd B o σ K:=by
 obtain ⟨dst,op,g,hid,al,early,deps,lc⟩:=o
 have h:=appK_eq dst σ K
 obtain ⟨fr,H,G⟩:=σ
 unfold TI
 simp only [← h]
 have hg:∀ f,guardF g fr f = guardK ⟨dst,op,g,hid,al,early,deps,lc⟩ ⟨fr,H,G⟩ f:=fun f=>rfl
 rw [← hg]
 have hs:appK dst fr H K undefSV [] G = K (St.app ⟨fr,H,G⟩ dst undefSV [] G):=congrFun (congrFun (congrFun h undefSV) []) G
 simp only [← hs]
 cases al<;>cases early<;>rfl
def pubO (op:IOp) (σ:St) (K:St→Prop):Prop:=match σ with
 | ⟨fr,H,G⟩=>cond op.isCallv (pubS fr H G (callLooks op) fun H' G'=>K ⟨fr,H',G'⟩) (K ⟨fr,H,G⟩)
theorem pubO_no {op:IOp} {σ:St} {K:St→Prop} (h:op.isCallv = false):pubO op σ K = K σ:=by
 obtain ⟨fr,H,G⟩:=σ
 unfold pubO;rw [h];rfl
theorem pubO_mono {op:IOp} {σ:St} {K K':St→Prop} (hk:∀ σ,K σ→K' σ) (h:pubO op σ K):pubO op σ K':=by
 obtain ⟨fr,H,G⟩:=σ
 unfold pubO at *
 cases hc:op.isCallv with
 | true=>rw [hc] at h;exact pubS_mono (fun H G h=>hk _ h) h
 | false=>rw [hc] at h;exact hk _ h
theorem pubO_sound {op:IOp} {w0:Root} {G0:Hp} {n:Nat} {M:Nat→Prop} {E:Nat→Value} {σ:St} {a:Act} {W:World} {K:St→Prop} (hs:Sat w0 G0 n M E σ a W) (h:pubO op σ K):∃ σ',K σ'∧Grow σ.G σ'.G∧σ'.fr = σ.fr∧Sat w0 G0 n M E σ' a W:=by
 obtain ⟨fr,H,G⟩:=σ
 unfold pubO at h
 cases hc:op.isCallv with
 | true =>
  rw [hc] at h
  obtain ⟨H1,G1,k1,k2,k3⟩:=pubS_sound ⟨hs.sim,hs.mH⟩ h
  exact ⟨_,k1,k2,rfl,hs.pub k3⟩
 | false=>rw [hc] at h;exact ⟨_,h,Grow.refl _,rfl,hs⟩

def vcOps (P:Program) (tab:FuncId→Option PSpec) (bd:Nat) (B:Hp):List IOper→St→(St→Prop)→Prop
 | [], σ,K=>K σ
 | o :: r, σ,K=>pubO o.op σ fun σ=>TF P tab bd B o σ fun σ'=>vcOps P tab bd B r σ' K

/-! ### From the model's regions -/

def depsOf (o:Oper):List Nat:=(o.after.toList.filter (Region.binds .any ·)).map (·.on)

def compGuard (ops:Array Oper) (o:Oper):Option (Option (Nat × Bool)):=match o.guard with
 | none=>some none
 | some (j,w)=>match ops[j]? with
  | some oj=>match oj.dst with
   | some g=>some (some (g,w))
   | none=>none
  | none=>none

def dstOk (nt:Nat):Option Nat→Bool
 | none=>true
 | some d=>Nat.blt d nt && Nat.blt d 1000000

def compOper (P:Program) (nt:Nat) (ops:Array Oper) (o:Oper) (hid:Nat):Option IOper:=match compOp P o.op,compGuard ops o with
 | some io,some g=>cond (dstOk nt o.dst) (some { dst:=o.dst,op:=io,guard:=g,hid:=hid,al:=none,early:=false,deps:=[],loc:=false }) none
 | _,_=>none
def fldApp (ops:Array Oper) (o:Oper):Bool:=match o.op with
 | .call c=>(match c.callee,c.args.toList with
  | .builtin .append, .tmp s :: _=>ops.any fun o'=>(match o'.dst with
   | some d=>Nat.beq d s
   | none=>false) && (match o'.op with
   | .load ..=>true
   | .slice ..=>true
   | .move (.tmp 0)=>true
   | _=>false)
  | _,_=>false)
 | _=>false
def cutFn (P:Program):IOp→Bool
 | .call f _=>match P.funcs[f]? with
  | some fn => fn.name == "slices.Delete[[]int,int]" || fn.name == "palantype/draft.sorted"
  | none=>false
 | _=>false
def litX (hid:Nat):IOp→Bool
 | .bsl ..=>Nat.ble 3000 hid
 | _=>false
def inHp (hid:Nat):Bool:=Nat.ble 1000 hid && Nat.blt hid 5000
def inNs (hid:Nat):Bool:=Nat.ble 2400 hid && Nat.blt hid 2500
def newOpS:IOp→Bool
 | .bsl ..=>true
 | .app ..=>true
 | .box ..=>true
 | _=>false
def altI (P:Program) (ops:Array Oper) (o:Oper) (hid:Nat) (io:IOper):IOper:=cond ((inHp hid && fldApp ops o) || (inNs hid && newOpS io.op)) { io with op:=altHp io.op } (cond (cutFn P io.op || litX hid io.op) { io with op:=altCut io.op } io)
def compList (P:Program) (nt:Nat) (ops:Array Oper):List Oper→Nat→Option (List IOper)
 | [],_=>some []
 | o :: r,hid=>match compOper P nt ops o hid,compList P nt ops r (hid + 1) with
  | some x,some xs=>some (altI P ops o hid x :: xs)
  | _,_=>none
theorem op_grow {P:Program} {hid:Nat} {Gr G:Hp} {K:SV→List (Nat × Option OB)→Hp→Prop} {r:Res} (h:r.den P hid Gr G K):r.den P hid Gr G fun sv hu G'=>Grow G G'∧K sv hu G':=by
 have fk:∀ {sv:SV} {L:SV→Prop},fork sv L→∀ {L':SV→Prop},(∀ s,L s→L' s)→fork sv L':=fun {sv L} h {L'} hl=>by
  unfold fork at *
  split
  ·exact ⟨fun e=>⟨hl _ (h.t e).out⟩,fun e=>⟨hl _ (h.f e).out⟩⟩
  ·rename_i hne
   split at h
   ·exact absurd rfl (hne _)
   ·exact hl _ h
 have cl:∀ {args s},denCall hid Gr G K args s→denCall hid Gr G (fun sv hu G'=>Grow G G'∧K sv hu G') args s:=fun {args s} h=>by
  cases s with
  | fn pre val=>exact ⟨h.h,⟨fk h.k.out fun s h=>⟨Grow.refl _,h⟩⟩⟩
  | sca pre post=>exact ⟨h.h,fun v hv=>⟨fk (h.k v hv).out fun s h=>⟨Grow.refl _,h⟩⟩⟩
  | rel pre post=>exact ⟨h.h,fun v G' hg hv=>⟨fk (h.k v G' hg hv).out fun s h=>⟨hg,h⟩⟩⟩
  | own t k pre post=>exact ⟨h.h,fun n vs G' hg hv=>⟨⟨hg,(h.k n vs G' hg hv).out⟩⟩⟩
  | st pre post=>exact h.elim
  | seq pre post=>exact h.elim
  | cut=>exact h.elim
  | hp=>exact h.elim
 have clv:∀ {H args s},denCallv H hid Gr G K args s→denCallv H hid Gr G (fun sv hu G'=>Grow G G'∧K sv hu G') args s:=fun {H args s} h=>by
  cases s with
  | st pre post =>
   obtain ⟨hs,h1,h2,h3,h4⟩:=h
   exact ⟨hs,h1,h2,h3,fun v ns G' hg hp=>⟨fk (h4 v ns G' hg hp).out fun s h=>⟨hg,h⟩⟩⟩
  | hp pre post =>
   simp only [denCallv] at h ⊢
   split at h
   ·exact ⟨h.h,fun v p' G' hg hp=>⟨fk (h.k v p' G' hg hp).out fun s h=>⟨hg,h⟩⟩⟩
   ·exact h.elim
  | fn pre val=>exact cl (s:=.fn pre val) h
  | sca pre post=>exact cl (s:=.sca pre post) h
  | rel pre post=>exact cl (s:=.rel pre post) h
  | own t k pre post=>exact cl (s:=.own t k pre post) h
  | seq pre post=>exact h.elim
  | cut=>exact h.elim
 induction r with
 | ok sv=>exact fk h fun s h=>⟨Grow.refl _,h⟩
 | obl φ r ih=>exact ⟨h.h,⟨ih h.k.out⟩⟩
 | ite φ r s ih1 ih2=>exact ⟨fun e=>⟨ih1 (h.t e).out⟩,fun e=>⟨ih2 (h.f e).out⟩⟩
 | rdk b off n cont ih=>obtain ⟨cs,h1,h2,h3⟩:=h;exact ⟨cs,h1,h2,⟨ih cs h3.out⟩⟩
 | rdm b cont ih=>obtain ⟨es,c,h1,h2⟩:=h;exact ⟨es,c,h1,⟨ih es h2.out⟩⟩
 | rdh p b off n cont ih=>obtain ⟨cs,h1,h3⟩:=h;exact ⟨cs,h1,fun d=>⟨ih cs (h3 d).out⟩⟩
 | eqk l n cont ih=>obtain ⟨cs,h1,h2,h3⟩:=h;exact ⟨cs,h1,h2,⟨ih cs h3.out⟩⟩
 | eqs l n cont ih=>obtain ⟨cs,h1,h2,h3⟩:=h;exact ⟨cs,h1,h2,⟨ih cs h3.out⟩⟩
 | keyk kt kv es cont ih=>obtain ⟨r,h1,h2⟩:=h;exact ⟨r,h1,⟨ih r h2.out⟩⟩
 | pur s cont ih=>obtain ⟨r,h1,h2⟩:=h;exact ⟨r,h1,⟨ih r h2.out⟩⟩
 | new ob sv=>exact ⟨Grow.refl _,h⟩
 | set h' ob sv=>exact ⟨Grow.refl _,h⟩
 | app hs n vs t k=>cases hs<;>exact ⟨Grow.refl _,h⟩
 | hpk p b cont ih=>obtain ⟨cs,t,h1,h2⟩:=h;exact ⟨cs,t,h1,⟨ih cs t h2.out⟩⟩
 | appn p n vs t k=>exact ⟨fun b cap rest h1 h2 h3 h4=>⟨⟨Grow.refl _,(h.k b cap rest h1 h2 h3 h4).out⟩⟩⟩
 | newh p u o=>exact ⟨fun b h1=>⟨⟨Grow.refl _,(h.k b h1).out⟩⟩⟩
 | give h' n vs=>exact ⟨fun a c G' hg hp=>⟨⟨hg,(h.k a c G' hg hp).out⟩⟩⟩
 | call s args=>exact cl h
 | callv H v args=>obtain ⟨s,h1,h2⟩:=h;exact ⟨s,h1,⟨clv h2.out⟩⟩
 | bad=>exact h

theorem den_mono {P:Program} {hid:Nat} {Gr G:Hp} {K K':SV→List (Nat × Option OB)→Hp→Prop} (hk:∀ sv hu G',K sv hu G'→K' sv hu G') {r:Res} (h:r.den P hid Gr G K):r.den P hid Gr G K':=by
 have fk:∀ {sv:SV} {L:SV→Prop},fork sv L→∀ {L':SV→Prop},(∀ s,L s→L' s)→fork sv L':=fun {sv L} h {L'} hl=>by
  unfold fork at *
  split
  ·exact ⟨fun e=>⟨hl _ (h.t e).out⟩,fun e=>⟨hl _ (h.f e).out⟩⟩
  ·rename_i hne
   split at h
   ·exact absurd rfl (hne _)
   ·exact hl _ h
 have cl:∀ {args s},denCall hid Gr G K args s→denCall hid Gr G K' args s:=fun {args s} h=>by
  cases s with
  | fn pre val=>exact ⟨h.h,⟨fk h.k.out fun s h=>hk _ _ _ h⟩⟩
  | sca pre post=>exact ⟨h.h,fun v hv=>⟨fk (h.k v hv).out fun s h=>hk _ _ _ h⟩⟩
  | rel pre post=>exact ⟨h.h,fun v G' hg hv=>⟨fk (h.k v G' hg hv).out fun s h=>hk _ _ _ h⟩⟩
  | own t k pre post=>exact ⟨h.h,fun n vs G' hg hv=>⟨hk _ _ _ (h.k n vs G' hg hv).out⟩⟩
  | st pre post=>exact h.elim
  | seq pre post=>exact h.elim
  | cut=>exact h.elim
  | hp=>exact h.elim
 have clv:∀ {H args s},denCallv H hid Gr G K args s→denCallv H hid Gr G K' args s:=fun {H args s} h=>by
  cases s with
  | st pre post =>
   obtain ⟨hs,h1,h2,h3,h4⟩:=h
   exact ⟨hs,h1,h2,h3,fun v ns G' hg hp=>⟨fk (h4 v ns G' hg hp).out fun s h=>hk _ _ _ h⟩⟩
  | hp pre post =>
   simp only [denCallv] at h ⊢
   split at h
   ·exact ⟨h.h,fun v p' G' hg hp=>⟨fk (h.k v p' G' hg hp).out fun s h=>hk _ _ _ h⟩⟩
   ·exact h.elim
  | fn pre val=>exact cl (s:=.fn pre val) h
  | sca pre post=>exact cl (s:=.sca pre post) h
  | rel pre post=>exact cl (s:=.rel pre post) h
  | own t k pre post=>exact cl (s:=.own t k pre post) h
  | seq pre post=>exact h.elim
  | cut=>exact h.elim
 induction r with
 | ok sv=>exact fk h fun s h=>hk _ _ _ h
 | obl φ r ih=>exact ⟨h.h,⟨ih h.k.out⟩⟩
 | ite φ r s ih1 ih2=>exact ⟨fun e=>⟨ih1 (h.t e).out⟩,fun e=>⟨ih2 (h.f e).out⟩⟩
 | rdk b off n cont ih=>obtain ⟨cs,h1,h2,h3⟩:=h;exact ⟨cs,h1,h2,⟨ih cs h3.out⟩⟩
 | rdm b cont ih=>obtain ⟨es,c,h1,h2⟩:=h;exact ⟨es,c,h1,⟨ih es h2.out⟩⟩
 | rdh p b off n cont ih=>obtain ⟨cs,h1,h3⟩:=h;exact ⟨cs,h1,fun d=>⟨ih cs (h3 d).out⟩⟩
 | eqk l n cont ih=>obtain ⟨cs,h1,h2,h3⟩:=h;exact ⟨cs,h1,h2,⟨ih cs h3.out⟩⟩
 | eqs l n cont ih=>obtain ⟨cs,h1,h2,h3⟩:=h;exact ⟨cs,h1,h2,⟨ih cs h3.out⟩⟩
 | keyk kt kv es cont ih=>obtain ⟨r,h1,h2⟩:=h;exact ⟨r,h1,⟨ih r h2.out⟩⟩
 | pur s cont ih=>obtain ⟨r,h1,h2⟩:=h;exact ⟨r,h1,⟨ih r h2.out⟩⟩
 | new ob sv=>exact hk _ _ _ h
 | set h' ob sv=>exact hk _ _ _ h
 | app hs n vs t k=>cases hs<;>exact hk _ _ _ h
 | hpk p b cont ih=>obtain ⟨cs,t,h1,h2⟩:=h;exact ⟨cs,t,h1,⟨ih cs t h2.out⟩⟩
 | appn p n vs t k=>exact ⟨fun b cap rest h1 h2 h3 h4=>⟨hk _ _ _ (h.k b cap rest h1 h2 h3 h4).out⟩⟩
 | newh p u o=>exact ⟨fun b h1=>⟨hk _ _ _ (h.k b h1).out⟩⟩
 | give h' n vs=>exact ⟨fun a c G' hg hp=>⟨hk _ _ _ (h.k a c G' hg hp).out⟩⟩
 | call s args=>exact cl h
 | callv H v args=>obtain ⟨s,h1,h2⟩:=h;exact ⟨s,h1,⟨clv h2.out⟩⟩
 | bad=>exact h

/-! ### What an operation does to a state -/

section
variable {P:Program} {w0:Root} {G0:Hp} {n:Nat}

theorem Act.getD_put {a:Act} {d i:Nat} {v:Value} (hd:d < a.tmps.size):(a.put (some d) v).tmps.getD i undef = if i = d then v else a.tmps.getD i undef:=by
 simp only [Act.put,Array.getD_eq_getD_getElem?]
 by_cases h:i = d
 ·subst h;simp [hd]
 ·rw [if_neg h]
  simp [Array.getElem?_setIfInBounds,Ne.symm h]
theorem Sat.app {M:Nat→Prop} {E:Nat→Value} {σ:St} {a:Act} {W W':World} {hid:Nat} {dst:Option Nat} {v:Value} {K:SV→List (Nat × Option OB)→Hp→Prop} (hs:Sat w0 G0 n M E σ a W) (hdst:dstOk n dst = true)
  (hp:OpPost w0 G0 M E σ.H hid K v W'):∃ sv hu G' E',K sv hu G'∧Agree M E E'∧(σ.app dst sv hu G').fr POS = σ.fr POS∧Sat w0 G0 n (fun k=>M k∨k = hid) E' (σ.app dst sv hu G') (a.put dst v) W':=by
 obtain ⟨sv,hu,G',E',hk,hr,hm,hag,hsim,hmH⟩:=hp
 refine ⟨sv,hu,G',E',hk,hag, ?_,hsim, ?_,hmH, ?_, ?_, ?_⟩
 ·cases dst with
  | none=>rfl
  | some d =>
   have:POS≠d:=fun e=>by subst e;simp [dstOk] at hdst
   simp only [St.app,upd_other _ _ this]
 ·intro i
  cases dst with
  | none=>exact SV.ment_mono (fun _ h=>.inl h) (hs.mfr i)
  | some d =>
   by_cases h:i = d
   ·subst h;simp only [St.app,upd_same];exact hm
   ·simp only [St.app,upd_other _ _ h];exact SV.ment_mono (fun _ h=>.inl h) (hs.mfr i)
 ·intro i
  cases dst with
  | none=>exact SV.rel_agree (hs.fr i) (hs.mfr i) hag
  | some d =>
   have hd:d < a.tmps.size:=by rw [hs.size];simp [dstOk] at hdst;exact hdst.1
   rw [Act.getD_put hd]
   by_cases h:i = d
   ·subst h;simp only [St.app,upd_same,if_true];exact hr
   ·simp only [St.app,upd_other _ _ h,if_neg h];exact SV.rel_agree (hs.fr i) (hs.mfr i) hag
 ·cases dst<;>simp [Act.put,hs.size]
 ·cases dst<;>simp [Act.put,hs.defers]

theorem memN_iff {x:Nat}:∀ {l:List Nat},memN x l = true↔x∈l
 | []=>by simp [memN]
 | y :: ys=>by
  simp only [memN,List.mem_cons]
  cases h:Nat.beq x y with
  | true=>simp [Nat.eq_of_beq_eq_true h]
  | false =>
   have:x≠y:=fun e=>by subst e;rw [Nat.beq_refl] at h;cases h
   simp [memN_iff,this]

theorem view_le {bd:Nat} {o:IOper} {H:Nat→Option OB} {h:Nat} {ob:OB} (e:view bd o H h = some ob):H h = some ob:=by
 unfold view at e
 cases ha:o.al with
 | none=>rw [ha] at e;exact e
 | some l =>
  rw [ha] at e
  simp only at e
  cases hc:((!o.loc && Nat.blt h bd) || memN h l) with
  | true=>rw [hc] at e;exact e
  | false=>rw [hc] at e;cases e
theorem guard_sound {ops:Array Oper} {o:Oper} {io:IOper} {M:Nat→Prop} {E:Nat→Value} {σ:St} {a:Act} {W:World} {f:Bool→Prop} (hs:Sat w0 G0 n M E σ a W) (hc:compGuard ops o = some io.guard) (hg:guardK io σ f) :
  f (Region.wanted o (yielded ops a.tmps)):=by
 unfold compGuard at hc
 unfold guardK at hg
 unfold Region.wanted
 split at hc
 ·rename_i h
  rw [h]
  cases hc':io.guard with
  | some p=>rw [hc'] at hc;cases hc
  | none=>rw [hc'] at hg;exact hg
 ·rename_i j w h
  rw [h]
  split at hc
  ·rename_i oj hj
   split at hc
   ·rename_i g hdst
    simp only [Option.some.injEq] at hc
    rw [← hc] at hg
    have hfr:=hs.fr g
    simp only at hg
    split at hg
    ·rename_i e
     rw [e] at hfr
     have hfr:a.tmps.getD g undef = .bool true:=hfr
     have:a.tmps[g]? = some (.bool true):=by
      rw [Array.getD_eq_getD_getElem?] at hfr
      cases hx:a.tmps[g]? with
      | none=>rw [hx] at hfr;simp [undef] at hfr
      | some v=>rw [hx] at hfr;simpa using hfr
     have hy:yielded ops a.tmps j = some true:=by simp [yielded,hj,hdst,this]
     show f (yielded ops a.tmps j == some w)
     rw [hy]
     cases w<;>exact hg
    ·rename_i e
     rw [e] at hfr
     have hfr:a.tmps.getD g undef = .bool false:=hfr
     have:a.tmps[g]? = some (.bool false):=by
      rw [Array.getD_eq_getD_getElem?] at hfr
      cases hx:a.tmps[g]? with
      | none=>rw [hx] at hfr;simp [undef] at hfr
      | some v=>rw [hx] at hfr;simpa using hfr
     have hy:yielded ops a.tmps j = some false:=by simp [yielded,hj,hdst,this]
     show f (yielded ops a.tmps j == some w)
     rw [hy]
     cases w<;>exact hg
    ·rename_i vs e
     rw [e] at hfr
     have hfr:a.tmps.getD g undef = .tuple vs:=hfr
     have hy:yielded ops a.tmps j = none:=by
      rw [Array.getD_eq_getD_getElem?] at hfr
      cases hx:a.tmps[g]? with
      | none=>simp [yielded,hj,hdst,hx]
      | some v=>rw [hx] at hfr;simp at hfr;simp [yielded,hj,hdst,hx,hfr]
     show f (yielded ops a.tmps j == some w)
     rw [hy]
     exact hg
    ·exact hg.elim
   ·cases hc
  ·cases hc
theorem TI_sound {ops:Array Oper} {o:Oper} {io:IOper} {M:Nat→Prop} {E:Nat→Value} {σ:St} {a:Act} {W:World} {rd:Option Nat} {nn:Nat} {Q:Exit→Act→World→Prop} {K:St→Prop} {B:Hp} {bd:Nat} (T:Tab P)
  (hs:Sat w0 G0 n M E σ a W) (hM:¬ M io.hid) (hop:CompB P o.op io.op) (hgd:compGuard ops o = some io.guard) (hdst:o.dst = io.dst) (hok:dstOk n io.dst = true) (hB:Grow B σ.G) (hd:TI P T.get bd B io σ K) :
  if Region.wanted o (yielded ops a.tmps) then o.wpIn (FW rd) nn P a W (fun a' W'=>∃ σ' E',K σ'∧Grow σ.G σ'.G∧Agree M E E'∧σ'.fr POS = σ.fr POS∧Sat w0 G0 n (fun k=>M k∨k = io.hid) E' σ' a' W') Q
  else (∀ f,o.about P W a.eval = some f→(FW rd).fn f)∧∃ σ' E',K σ'∧Grow σ.G σ'.G∧Agree M E E'∧σ'.fr POS = σ.fr POS∧Sat w0 G0 n (fun k=>M k∨k = io.hid) E' σ' (a.put o.dst undef) W:=by
 have hg:=guard_sound hs hgd hd
 generalize Region.wanted o (yielded ops a.tmps) = run at hg
 cases run with
 | true =>
  simp only at hg
  rw [if_pos rfl]
  have hGr:Grow (cond io.early B σ.G) σ.G:=by cases io.early<;>first | exact hB | exact Grow.refl _
  have C:Ctx w0 G0 (cond io.early B σ.G) σ.G M E σ.H (view bd io σ.H) io.hid σ.fr a W:=⟨hs.fr,hs.mfr,hs.sim,hs.mH,hM,fun h ob e=>view_le e,hGr⟩
  have hg':=op_grow hg
  refine Oper.wpIn_mono ?_ (op_soundB C T hop hg' (rd:=rd) (nn:=nn) (Q:=Q))
  rintro a' W' ⟨v,rfl,hp⟩
  rw [hdst]
  obtain ⟨sv,hu,G',E',⟨hgr,hk⟩,hag,hsat⟩:=hs.app hok hp
  exact ⟨_,E',hk,hgr,hag,hsat⟩
 | false =>
  simp only at hg
  rw [if_neg (by simp)]
  refine ⟨fun _ _=>trivial, ?_⟩
  rw [hdst]
  obtain ⟨sv,hu,G',E',hk,hag,hsat⟩:=hs.app (dst:=io.dst) (v:=undef) (K:=fun sv hu G'=>sv = undefSV∧hu = []∧G' = σ.G) (hid:=io.hid) hok ⟨undefSV,[], σ.G,E,⟨rfl,rfl,rfl⟩,rfl,trivial,Agree.refl _ _,hs.sim,fun h ob e=>⟨.inl (hs.mH h ob e).1,OB.ment_mono (fun _ h=>.inl h) (hs.mH h ob e).2⟩⟩
  obtain ⟨rfl,rfl,rfl⟩:=hk
  exact ⟨_,E',hg,Grow.refl _,hag,hsat⟩
end
end Go.Pal

namespace Go.Pal
open Go.RowKit

abbrev HU:=List (Nat × Option OB)
abbrev PO:=Option (Hp→Prop)

def PK (p:PO) (G:Hp) (k:Hp→Prop):Prop:=match p with
 | none=>k G
 | some q=>∀ G',Grow G G'→q G'→k G'

def FE (sv sv':SV):Prop:=match sv with
 | .c (.sb b)=>(b = true∧sv' = tt)∨(b = false∧sv' = ff)
 | sv=>sv' = sv

theorem fork_iff {sv:SV} {K:SV→Prop}:fork sv K↔∀ sv',FE sv sv'→K sv':=by
 unfold fork FE
 split
 ·rename_i b
  constructor
  ·rintro h sv' (⟨e,rfl⟩ | ⟨e,rfl⟩)
   ·exact (h.t e).out
   ·exact (h.f e).out
  ·intro h
   exact ⟨fun e=>⟨h _ (.inl ⟨e,rfl⟩)⟩,fun e=>⟨h _ (.inr ⟨e,rfl⟩)⟩⟩
 ·rename_i hne
  constructor
  ·intro h sv' e
   split at e
   ·exact absurd rfl (hne _)
   ·subst e;exact h
  ·intro h
   refine h _ ?_
   split
   ·exact absurd rfl (hne _)
   ·rfl

theorem pur_uniq {P:Program} {s:Sem Value} {r r':Value} (h:∀ w,s.run P w = .ok r w) (h':∀ w,s.run P w = .ok r' w):r = r':=by
 have:=(h default).symm.trans (h' default)
 injection this

theorem hpk_uniq {p:Hp} {b:Nat} {cs cs':List Value} {t t':TypeId} (h:p b = some (.cells cs.toArray t (0,0))) (h':p b = some (.cells cs'.toArray t' (0,0))):cs' = cs∧t' = t:=by
 rw [h] at h'
 injection h' with h'
 injection h' with h1 h2
 exact ⟨(congrArg Array.toList h1).symm,h2.symm⟩
theorem keyFind_uniq {P:Program} {kt:TypeId} {kv:Value} {es:Array MapEntry} {r r':Option Nat} (h:KeyFind P kt kv es r) (h':KeyFind P kt kv es r'):r = r':=by
 have:=(h.find default).symm.trans (h'.find default)
 cases r<;>cases r'<;>simp_all [mapAt]

/-! ### What is asked,and what comes of it -/

def ObC (Gr:Hp) (args:List Value):PSpec→Prop
 | .fn pre _=>pre args Gr
 | .sca pre _=>pre args Gr
 | .rel pre _=>pre args Gr
 | .own _ _ pre _=>pre args Gr
 | .st _ _=>False
 | .seq _ _=>False
 | .cut ..=>False
 | .hp ..=>False
def EfC (hid:Nat) (Gr:Hp) (args:List Value):PSpec→SV→HU→PO→Prop
 | .fn _ val,sv,hu,p=>FE (SV.of (val args)) sv∧hu = []∧p = none
 | .sca _ post,sv,hu,p=>∃ v,post args Gr v∧FE (SV.of v) sv∧hu = []∧p = none
 | .rel _ post,sv,hu,p=>∃ v,FE (SV.of v) sv∧hu = []∧p = some (post args v)
 | .own t k _ post,sv,hu,p=>∃ n vs,sv = .c (.row hid n)∧hu = [(hid,some (.row none n vs t k))]∧p = some (post args n vs)
 | .st _ _,_,_,_=>False
 | .seq _ _,_,_,_=>False
 | .cut ..,_,_,_=>False
 | .hp ..,_,_,_=>False

def Ob (P:Program) (Gr:Hp):Res→Prop
 | .ok _=>True
 | .obl φ r=>φ∧Ob P Gr r
 | .ite φ r s=>(φ→Ob P Gr r)∧(¬ φ→Ob P Gr s)
 | .rdk b off n cont=>∃ cs:List Value,cs.length = n∧CellsAt Gr b off cs∧Ob P Gr (cont cs)
 | .rdm b cont=>∃ es c,Gr b = some (.map es c)∧Ob P Gr (cont es)
 | .rdh p b off n cont=>∃ cs:List Value,RdH p Gr b off n cs∧(Disj p Gr→Ob P Gr (cont cs))
 | .eqk l n cont=>∃ cs:List Value,l = cs∧cs.length = n∧Ob P Gr (cont cs)
 | .eqs l n cont=>∃ cs:List S1,l = cs∧cs.length = n∧Ob P Gr (cont cs)
 | .keyk kt kv es cont=>∃ r,KeyFind P kt kv es r∧Ob P Gr (cont r)
 | .pur s cont=>∃ r,(∀ w,s.run P w = .ok r w)∧Ob P Gr (cont r)
 | .hpk p b cont=>∃ cs t,p b = some (.cells cs.toArray t (0,0))∧Ob P Gr (cont cs t)
 | .appn ..=>True
 | .newh ..=>True
 | .give ..=>True
 | .new _ _=>True
 | .set _ _ _=>True
 | .app ..=>True
 | .call s args=>ObC Gr args s
 | .callv _ _ _=>False
 | .bad=>False
def Ef (P:Program) (hid:Nat) (Gr:Hp):Res→SV→HU→PO→Prop
 | .ok sv,sv',hu,p=>FE sv sv'∧hu = []∧p = none
 | .obl _ r,sv',hu,p=>Ef P hid Gr r sv' hu p
 | .ite φ r s,sv',hu,p=>(φ∧Ef P hid Gr r sv' hu p)∨(¬ φ∧Ef P hid Gr s sv' hu p)
 | .rdk b off n cont,sv',hu,p=>∃ cs:List Value,cs.length = n∧CellsAt Gr b off cs∧Ef P hid Gr (cont cs) sv' hu p
 | .rdm b cont,sv',hu,p=>∃ es c,Gr b = some (.map es c)∧Ef P hid Gr (cont es) sv' hu p
 | .rdh q b off n cont,sv',hu,p=>Disj q Gr∧∃ cs:List Value,RdH q Gr b off n cs∧Ef P hid Gr (cont cs) sv' hu p
 | .eqk l n cont,sv',hu,p=>∃ cs:List Value,l = cs∧cs.length = n∧Ef P hid Gr (cont cs) sv' hu p
 | .eqs l n cont,sv',hu,p=>∃ cs:List S1,l = cs∧cs.length = n∧Ef P hid Gr (cont cs) sv' hu p
 | .keyk kt kv es cont,sv',hu,p=>∃ r,KeyFind P kt kv es r∧Ef P hid Gr (cont r) sv' hu p
 | .pur s cont,sv',hu,p=>∃ r,(∀ w,s.run P w = .ok r w)∧Ef P hid Gr (cont r) sv' hu p
 | .hpk h b cont,sv',hu,p=>∃ cs t,h b = some (.cells cs.toArray t (0,0))∧Ef P hid Gr (cont cs t) sv' hu p
 | .newh h u o,sv',hu,p=>p = none∧∃ b,h b = none∧sv' = .v (u b)∧hu = [(0,some (.heap (upd h b (some o))))]
 | .appn h n vs t k,sv',hu,p=>p = none∧∃ b cap rest,(h b = none∧n≤cap∧cap≤maxLen∧rest.length = (cap - n) * k)∧sv' = .v (.slice (some ⟨b,0,none⟩) n cap)∧hu = [(0,some (heapAdd h b vs rest t))]
 | .give h n vs,sv',hu,p=>∃ a c,sv' = .v (.slice a n c)∧hu = [(h,none)]∧p = some fun G=>PubRow G a n c vs
 | .new ob sv,sv',hu,p=>sv' = sv∧hu = [(hid,some ob)]∧p = none
 | .set h ob sv,sv',hu,p=>sv' = sv∧hu = [(h,some ob)]∧p = none
 | .app hs n vs t k,sv',hu,p=>sv' = .c (.row hid n)∧p = none∧match hs with
  | some h=>hu = [(h,none),(hid,some (.row none n vs t k))]
  | none=>hu = [(hid,some (.row none n vs t k))]
 | .call s args,sv',hu,p=>EfC hid Gr args s sv' hu p
 | .callv _ _ _,_,_,_=>False
 | .bad,_,_,_=>False
def MonoS (args:List Value):PSpec→Prop
 | .rel _ post=>∀ v G G',Grow G G'→post args v G→post args v G'
 | .own _ _ _ post=>∀ n vs G G',Grow G G'→post args n vs G→post args n vs G'
 | _=>True
def Rok:Res→Prop
 | .obl _ r=>Rok r
 | .ite _ r s=>Rok r∧Rok s
 | .rdk _ _ _ cont=>∀ cs,Rok (cont cs)
 | .rdm _ cont=>∀ es,Rok (cont es)
 | .rdh _ _ _ _ cont=>∀ cs,Rok (cont cs)
 | .eqk _ _ cont=>∀ cs,Rok (cont cs)
 | .eqs _ _ cont=>∀ cs,Rok (cont cs)
 | .keyk _ _ _ cont=>∀ r,Rok (cont r)
 | .pur _ cont=>∀ r,Rok (cont r)
 | .hpk _ _ cont=>∀ cs t,Rok (cont cs t)
 | .call s args=>MonoS args s
 | .callv _ _ _=>False
 | _=>True
def Keys (S:Nat→Prop) (hid:Nat):Res→Prop
 | .obl _ r=>Keys S hid r
 | .ite _ r s=>Keys S hid r∧Keys S hid s
 | .rdk _ _ _ cont=>∀ cs,Keys S hid (cont cs)
 | .rdm _ cont=>∀ es,Keys S hid (cont es)
 | .rdh _ _ _ _ cont=>∀ cs,Keys S hid (cont cs)
 | .eqk _ _ cont=>∀ cs,Keys S hid (cont cs)
 | .eqs _ _ cont=>∀ cs,Keys S hid (cont cs)
 | .keyk _ _ _ cont=>∀ r,Keys S hid (cont r)
 | .pur _ cont=>∀ r,Keys S hid (cont r)
 | .hpk _ _ cont=>∀ cs t,Keys S hid (cont cs t)
 | .appn ..=>S 0
 | .newh ..=>S 0
 | .give h _ _=>S h
 | .set h _ _=>S h
 | .app hs _ _ _ _=>∀ h,hs = some h→S h
 | _=>True
def MonoP:PSpec→Prop
 | .fn pre _=>∀ args G G',Grow G G'→pre args G→pre args G'
 | .sca pre post=>∀ args G G',Grow G G'→pre args G→pre args G'∧∀ v,post args G' v→post args G v
 | .rel pre _=>∀ args G G',Grow G G'→pre args G→pre args G'
 | .own _ _ pre _=>∀ args G G',Grow G G'→pre args G→pre args G'
 | .hp pre _=>∀ args p G G',Grow G G'→pre args p G→pre args p G'
 | _=>True
def MonoR:Res→Prop
 | .obl _ r=>MonoR r
 | .ite _ r s=>MonoR r∧MonoR s
 | .rdk _ _ _ cont=>∀ cs,MonoR (cont cs)
 | .rdm _ cont=>∀ es,MonoR (cont es)
 | .rdh _ _ _ _ cont=>∀ cs,MonoR (cont cs)
 | .eqk _ _ cont=>∀ cs,MonoR (cont cs)
 | .eqs _ _ cont=>∀ cs,MonoR (cont cs)
 | .keyk _ _ _ cont=>∀ r,MonoR (cont r)
 | .pur _ cont=>∀ r,MonoR (cont r)
 | .hpk _ _ cont=>∀ cs t,MonoR (cont cs t)
 | .call s _=>MonoP s
 | .callv _ _ _=>False
 | _=>True
def Still:Res→Prop
 | .obl _ r=>Still r
 | .ite _ r s=>Still r∧Still s
 | .rdk _ _ _ cont=>∀ cs,Still (cont cs)
 | .rdm _ cont=>∀ es,Still (cont es)
 | .rdh _ _ _ _ cont=>∀ cs,Still (cont cs)
 | .eqk _ _ cont=>∀ cs,Still (cont cs)
 | .eqs _ _ cont=>∀ cs,Still (cont cs)
 | .keyk _ _ _ cont=>∀ r,Still (cont r)
 | .pur _ cont=>∀ r,Still (cont r)
 | .hpk _ _ cont=>∀ cs t,Still (cont cs t)
 | .call _ _=>False
 | .callv _ _ _=>False
 | .give ..=>False
 | _=>True

section
variable {P:Program} {hid:Nat} {Gr G:Hp} {K:SV→HU→Hp→Prop}

theorem denCall_iff {args:List Value} {s:PSpec}:denCall hid Gr G K args s↔ObC Gr args s∧∀ sv hu p,EfC hid Gr args s sv hu p→PK p G (K sv hu):=by
 cases s with
 | st pre post=>exact ⟨fun h=>h.elim,fun h=>h.1.elim⟩
 | seq pre post=>exact ⟨fun h=>h.elim,fun h=>h.1.elim⟩
 | cut=>exact ⟨fun h=>h.elim,fun h=>h.1.elim⟩
 | hp=>exact ⟨fun h=>h.elim,fun h=>h.1.elim⟩
 | fn pre val =>
  constructor
  ·rintro ⟨h,⟨k⟩⟩
   refine ⟨h, ?_⟩
   rintro sv hu p ⟨h1,rfl,rfl⟩
   exact fork_iff.1 k sv h1
  ·rintro ⟨h,k⟩
   exact ⟨h,⟨fork_iff.2 fun sv hsv=>k sv [] none ⟨hsv,rfl,rfl⟩⟩⟩
 | sca pre post =>
  constructor
  ·rintro ⟨h,k⟩
   refine ⟨h, ?_⟩
   rintro sv hu p ⟨v,hv,h1,rfl,rfl⟩
   exact fork_iff.1 (k v hv).out sv h1
  ·rintro ⟨h,k⟩
   exact ⟨h,fun v hv=>⟨fork_iff.2 fun sv hsv=>k sv [] none ⟨v,hv,hsv,rfl,rfl⟩⟩⟩
 | rel pre post =>
  constructor
  ·rintro ⟨h,k⟩
   refine ⟨h, ?_⟩
   rintro sv hu p ⟨v,h1,rfl,rfl⟩ G' hg hv
   exact fork_iff.1 (k v G' hg hv).out sv h1
  ·rintro ⟨h,k⟩
   exact ⟨h,fun v G' hg hv=>⟨fork_iff.2 fun sv hsv=>k sv [] _ ⟨v,hsv,rfl,rfl⟩ G' hg hv⟩⟩
 | own t kk pre post =>
  constructor
  ·rintro ⟨h,k⟩
   refine ⟨h, ?_⟩
   rintro sv hu p ⟨n,vs,rfl,rfl,rfl⟩ G' hg hv
   exact (k n vs G' hg hv).out
  ·rintro ⟨h,k⟩
   exact ⟨h,fun n vs G' hg hv=>⟨k _ _ _ ⟨n,vs,rfl,rfl,rfl⟩ G' hg hv⟩⟩

theorem den_iff {r:Res} (hr:Rok r):r.den P hid Gr G K↔Ob P Gr r∧∀ sv hu p,Ef P hid Gr r sv hu p→PK p G (K sv hu):=by
 induction r with
 | ok sv =>
  constructor
  ·intro h
   refine ⟨trivial, ?_⟩
   rintro sv' hu p ⟨h1,rfl,rfl⟩
   exact fork_iff.1 h sv' h1
  ·rintro ⟨_,h⟩
   exact fork_iff.2 fun sv' h1=>h sv' [] none ⟨h1,rfl,rfl⟩
 | obl φ r ih =>
  have ih:=ih hr
  constructor
  ·rintro ⟨h,⟨k⟩⟩
   exact ⟨⟨h,(ih.1 k).1⟩,(ih.1 k).2⟩
  ·rintro ⟨⟨h,k⟩,k2⟩
   exact ⟨h,⟨ih.2 ⟨k,k2⟩⟩⟩
 | ite φ r s ih1 ih2 =>
  have ih1:=ih1 hr.1
  have ih2:=ih2 hr.2
  constructor
  ·rintro ⟨h1,h2⟩
   refine ⟨⟨fun e=>(ih1.1 (h1 e).out).1,fun e=>(ih2.1 (h2 e).out).1⟩, ?_⟩
   rintro sv hu p (⟨e,k⟩ | ⟨e,k⟩)
   ·exact (ih1.1 (h1 e).out).2 _ _ _ k
   ·exact (ih2.1 (h2 e).out).2 _ _ _ k
  ·rintro ⟨⟨h1,h2⟩,k⟩
   exact ⟨fun e=>⟨ih1.2 ⟨h1 e,fun sv hu p h=>k sv hu p (.inl ⟨e,h⟩)⟩⟩,fun e=>⟨ih2.2 ⟨h2 e,fun sv hu p h=>k sv hu p (.inr ⟨e,h⟩)⟩⟩⟩
 | rdk b off n cont ih =>
  constructor
  ·rintro ⟨cs,h1,h2,⟨k⟩⟩
   have k:=(ih cs (hr cs)).1 k
   refine ⟨⟨cs,h1,h2,k.1⟩, ?_⟩
   rintro sv hu p ⟨cs',h1',h2',k'⟩
   have:cs' = cs:=h2'.eq h2 (by omega)
   subst this
   exact k.2 _ _ _ k'
  ·rintro ⟨⟨cs,h1,h2,k⟩,k2⟩
   exact ⟨cs,h1,h2,⟨(ih cs (hr cs)).2 ⟨k,fun sv hu p h=>k2 sv hu p ⟨cs,h1,h2,h⟩⟩⟩⟩
 | rdm b cont ih =>
  constructor
  ·rintro ⟨es,c,h1,⟨k⟩⟩
   have k:=(ih es (hr es)).1 k
   refine ⟨⟨es,c,h1,k.1⟩, ?_⟩
   rintro sv hu p ⟨es',c',h1',k'⟩
   obtain ⟨rfl,rfl⟩:es = es'∧c = c':=by rw [h1] at h1';cases h1';exact ⟨rfl,rfl⟩
   exact k.2 _ _ _ k'
  ·rintro ⟨⟨es,c,h1,k⟩,k2⟩
   exact ⟨es,c,h1,⟨(ih es (hr es)).2 ⟨k,fun sv hu p h=>k2 sv hu p ⟨es,c,h1,h⟩⟩⟩⟩
 | rdh q b off n cont ih =>
  constructor
  ·rintro ⟨cs,h1,k⟩
   refine ⟨⟨cs,h1,fun d=>((ih cs (hr cs)).1 (k d).out).1⟩, ?_⟩
   rintro sv hu p ⟨d,cs',h1',k'⟩
   have:=h1.uniq h1' d
   subst this
   exact ((ih _ (hr _)).1 (k d).out).2 _ _ _ k'
  ·rintro ⟨⟨cs,h1,k⟩,k2⟩
   exact ⟨cs,h1,fun d=>⟨(ih cs (hr cs)).2 ⟨k d,fun sv hu p h=>k2 sv hu p ⟨d,cs,h1,h⟩⟩⟩⟩
 | eqk l n cont ih =>
  constructor
  ·rintro ⟨cs,h1,h2,⟨k⟩⟩
   have k:=(ih cs (hr cs)).1 k
   refine ⟨⟨cs,h1,h2,k.1⟩, ?_⟩
   rintro sv hu p ⟨cs',h1',h2',k'⟩
   have:cs' = cs:=h1'.symm.trans h1
   subst this
   exact k.2 _ _ _ k'
  ·rintro ⟨⟨cs,h1,h2,k⟩,k2⟩
   exact ⟨cs,h1,h2,⟨(ih cs (hr cs)).2 ⟨k,fun sv hu p h=>k2 sv hu p ⟨cs,h1,h2,h⟩⟩⟩⟩
 | eqs l n cont ih =>
  constructor
  ·rintro ⟨cs,h1,h2,⟨k⟩⟩
   have k:=(ih cs (hr cs)).1 k
   refine ⟨⟨cs,h1,h2,k.1⟩, ?_⟩
   rintro sv hu p ⟨cs',h1',h2',k'⟩
   have:cs' = cs:=h1'.symm.trans h1
   subst this
   exact k.2 _ _ _ k'
  ·rintro ⟨⟨cs,h1,h2,k⟩,k2⟩
   exact ⟨cs,h1,h2,⟨(ih cs (hr cs)).2 ⟨k,fun sv hu p h=>k2 sv hu p ⟨cs,h1,h2,h⟩⟩⟩⟩
 | keyk kt kv es cont ih =>
  constructor
  ·rintro ⟨r,h1,⟨k⟩⟩
   have k:=(ih r (hr r)).1 k
   refine ⟨⟨r,h1,k.1⟩, ?_⟩
   rintro sv hu p ⟨r',h1',k'⟩
   have:=keyFind_uniq h1' h1
   subst this
   exact k.2 _ _ _ k'
  ·rintro ⟨⟨r,h1,k⟩,k2⟩
   exact ⟨r,h1,⟨(ih r (hr r)).2 ⟨k,fun sv hu p h=>k2 sv hu p ⟨r,h1,h⟩⟩⟩⟩
 | pur s cont ih =>
  constructor
  ·rintro ⟨r,h1,⟨k⟩⟩
   have k:=(ih r (hr r)).1 k
   refine ⟨⟨r,h1,k.1⟩, ?_⟩
   rintro sv hu p ⟨r',h1',k'⟩
   have:=pur_uniq h1' h1
   subst this
   exact k.2 _ _ _ k'
  ·rintro ⟨⟨r,h1,k⟩,k2⟩
   exact ⟨r,h1,⟨(ih r (hr r)).2 ⟨k,fun sv hu p h=>k2 sv hu p ⟨r,h1,h⟩⟩⟩⟩
 | hpk p b cont ih =>
  constructor
  ·rintro ⟨cs,t,h1,⟨k⟩⟩
   have k:=(ih cs t (hr cs t)).1 k
   refine ⟨⟨cs,t,h1,k.1⟩, ?_⟩
   rintro sv hu p ⟨cs',t',h1',k'⟩
   obtain ⟨rfl,rfl⟩:=hpk_uniq h1 h1'
   exact k.2 _ _ _ k'
  ·rintro ⟨⟨cs,t,h1,k⟩,k2⟩
   exact ⟨cs,t,h1,⟨(ih cs t (hr cs t)).2 ⟨k,fun sv hu p h=>k2 sv hu p ⟨cs,t,h1,h⟩⟩⟩⟩
 | newh p u o =>
  constructor
  ·intro h
   refine ⟨trivial, ?_⟩
   rintro sv' hu q ⟨rfl,b,h1,rfl,rfl⟩
   exact (h.k b h1).out
  ·rintro ⟨_,h⟩
   exact ⟨fun b h1=>⟨h _ _ none ⟨rfl,b,h1,rfl,rfl⟩⟩⟩
 | appn p n vs t k =>
  constructor
  ·intro h
   refine ⟨trivial, ?_⟩
   rintro sv' hu q ⟨rfl,b,cap,rest,⟨h1,h2,h3,h4⟩,rfl,rfl⟩
   exact (h.k b cap rest h1 h2 h3 h4).out
  ·rintro ⟨_,h⟩
   exact ⟨fun b cap rest h1 h2 h3 h4=>⟨h _ _ none ⟨rfl,b,cap,rest,⟨h1,h2,h3,h4⟩,rfl,rfl⟩⟩⟩
 | give h' n vs =>
  constructor
  ·intro h
   refine ⟨trivial, ?_⟩
   rintro sv' hu q ⟨a,c,rfl,rfl,rfl⟩ G' hg hp
   exact (h.k a c G' hg hp).out
  ·rintro ⟨_,h⟩
   exact ⟨fun a c G' hg hp=>⟨h _ _ _ ⟨a,c,rfl,rfl,rfl⟩ G' hg hp⟩⟩
 | new ob sv =>
  constructor
  ·intro h
   refine ⟨trivial, ?_⟩
   rintro sv' hu p ⟨rfl,rfl,rfl⟩
   exact h
  ·rintro ⟨_,h⟩
   exact h sv _ none ⟨rfl,rfl,rfl⟩
 | set h' ob sv =>
  constructor
  ·intro h
   refine ⟨trivial, ?_⟩
   rintro sv' hu p ⟨rfl,rfl,rfl⟩
   exact h
  ·rintro ⟨_,h⟩
   exact h sv _ none ⟨rfl,rfl,rfl⟩
 | app hs n vs t k =>
  cases hs with
  | none =>
   constructor
   ·intro h
    refine ⟨trivial, ?_⟩
    rintro sv' hu p ⟨rfl,rfl,rfl⟩
    exact h
   ·rintro ⟨_,h⟩
    exact h _ _ none ⟨rfl,rfl,rfl⟩
  | some h' =>
   constructor
   ·intro h
    refine ⟨trivial, ?_⟩
    rintro sv' hu p ⟨rfl,rfl,rfl⟩
    exact h
   ·rintro ⟨_,h⟩
    exact h _ _ none ⟨rfl,rfl,rfl⟩
 | call s args=>exact denCall_iff
 | callv H v args=>exact hr.elim
 | bad=>exact ⟨fun h=>h.elim,fun h=>h.1.elim⟩

theorem EfC_mono {args:List Value} {s:PSpec} (hs:MonoS args s) {sv:SV} {hu:HU} {q:Hp→Prop} (h:EfC hid Gr args s sv hu (some q)):∀ G G',Grow G G'→q G→q G':=by
 cases s with
 | fn pre val=>obtain ⟨_,_,e⟩:=h;cases e
 | sca pre post=>obtain ⟨_,_,_,_,e⟩:=h;cases e
 | rel pre post=>obtain ⟨v,_,_,e⟩:=h;cases e;exact hs v
 | own t k pre post=>obtain ⟨n,vs,_,_,e⟩:=h;cases e;exact hs n vs
 | st pre post=>exact h.elim
 | seq pre post=>exact h.elim
 | cut=>exact h.elim
 | hp=>exact h.elim
theorem Ef_mono {r:Res} (hr:Rok r) {sv:SV} {hu:HU} {q:Hp→Prop} (h:Ef P hid Gr r sv hu (some q)):∀ G G',Grow G G'→q G→q G':=by
 induction r with
 | ok sv=>cases h.2.2
 | obl φ r ih=>exact ih hr h
 | ite φ r s ih1 ih2=>exact h.elim (fun h=>ih1 hr.1 h.2) (fun h=>ih2 hr.2 h.2)
 | rdk b off n cont ih=>obtain ⟨cs,_,_,h⟩:=h;exact ih cs (hr cs) h
 | rdm b cont ih=>obtain ⟨es,_,_,h⟩:=h;exact ih es (hr es) h
 | rdh q b off n cont ih=>obtain ⟨_,cs,_,h⟩:=h;exact ih cs (hr cs) h
 | eqk l n cont ih=>obtain ⟨cs,_,_,h⟩:=h;exact ih cs (hr cs) h
 | eqs l n cont ih=>obtain ⟨cs,_,_,h⟩:=h;exact ih cs (hr cs) h
 | keyk kt kv es cont ih=>obtain ⟨r,_,h⟩:=h;exact ih r (hr r) h
 | pur s cont ih=>obtain ⟨r,_,h⟩:=h;exact ih r (hr r) h
 | hpk p b cont ih=>obtain ⟨cs,t,_,h⟩:=h;exact ih cs t (hr cs t) h
 | appn p n vs t k=>cases h.1
 | newh p u o=>cases h.1
 | give h' n vs=>obtain ⟨a,c,_,_,e⟩:=h;cases e;exact fun G G' hg hp=>hp.grow hg
 | new ob sv=>cases h.2.2
 | set h' ob sv=>cases h.2.2
 | app hs n vs t k=>cases h.2.1
 | call s args=>exact EfC_mono hr h
 | callv H v args=>exact hr.elim
 | bad=>exact h.elim

theorem Ef_keys {S:Nat→Prop} {r:Res} (hr:Keys S hid r) {sv:SV} {hu:HU} {p:PO} (h:Ef P hid Gr r sv hu p):∀ q∈hu,q.1 = hid∨S q.1:=by
 induction r with
 | ok sv=>obtain ⟨_,rfl,_⟩:=h;intro q hq;cases hq
 | obl φ r ih=>exact ih hr h
 | ite φ r s ih1 ih2=>exact h.elim (fun h=>ih1 hr.1 h.2) (fun h=>ih2 hr.2 h.2)
 | rdk b off n cont ih=>obtain ⟨cs,_,_,h⟩:=h;exact ih cs (hr cs) h
 | rdm b cont ih=>obtain ⟨es,_,_,h⟩:=h;exact ih es (hr es) h
 | rdh q b off n cont ih=>obtain ⟨_,cs,_,h⟩:=h;exact ih cs (hr cs) h
 | eqk l n cont ih=>obtain ⟨cs,_,_,h⟩:=h;exact ih cs (hr cs) h
 | eqs l n cont ih=>obtain ⟨cs,_,_,h⟩:=h;exact ih cs (hr cs) h
 | keyk kt kv es cont ih=>obtain ⟨r,_,h⟩:=h;exact ih r (hr r) h
 | pur s cont ih=>obtain ⟨r,_,h⟩:=h;exact ih r (hr r) h
 | hpk p b cont ih=>obtain ⟨cs,t,_,h⟩:=h;exact ih cs t (hr cs t) h
 | newh p u o=>obtain ⟨_,_,_,_,rfl⟩:=h;intro q hq;simp only [List.mem_singleton] at hq;subst hq;exact .inr hr
 | appn p n vs t k=>obtain ⟨_,_,_,_,_,_,rfl⟩:=h;intro q hq;simp only [List.mem_singleton] at hq;subst hq;exact .inr hr
 | new ob sv=>obtain ⟨_,rfl,_⟩:=h;intro q hq;simp only [List.mem_singleton] at hq;subst hq;exact .inl rfl
 | set h' ob sv=>obtain ⟨_,rfl,_⟩:=h;intro q hq;simp only [List.mem_singleton] at hq;subst hq;exact .inr hr
 | app hs n vs t k =>
  obtain ⟨_,_,e⟩:=h
  cases hs with
  | none=>subst e;intro q hq;simp only [List.mem_singleton] at hq;subst hq;exact .inl rfl
  | some h' =>
   simp only at e
   subst e;intro q hq
   simp only [List.mem_cons,List.not_mem_nil,or_false] at hq
   rcases hq with rfl | rfl
   ·exact .inr (hr h' rfl)
   ·exact .inl rfl
 | call s args =>
  cases s with
  | fn pre val=>obtain ⟨_,rfl,_⟩:=h;intro q hq;cases hq
  | sca pre post=>obtain ⟨_,_,_,rfl,_⟩:=h;intro q hq;cases hq
  | rel pre post=>obtain ⟨_,_,rfl,_⟩:=h;intro q hq;cases hq
  | own t k pre post=>obtain ⟨n,vs,_,rfl,_⟩:=h;intro q hq;simp only [List.mem_singleton] at hq;subst hq;exact .inl rfl
  | st pre post=>exact h.elim
  | seq pre post=>exact h.elim
  | cut=>exact h.elim
  | hp=>exact h.elim
 | give h' n vs=>obtain ⟨_,_,_,rfl,_⟩:=h;intro q hq;simp only [List.mem_singleton] at hq;subst hq;exact .inr hr
 | callv H v args=>exact h.elim
 | bad=>exact h.elim

theorem Ef_still {r:Res} (hr:Still r) {sv:SV} {hu:HU} {p:PO} (h:Ef P hid Gr r sv hu p):p = none:=by
 induction r with
 | ok sv=>exact h.2.2
 | obl φ r ih=>exact ih hr h
 | ite φ r s ih1 ih2=>exact h.elim (fun h=>ih1 hr.1 h.2) (fun h=>ih2 hr.2 h.2)
 | rdk b off n cont ih=>obtain ⟨cs,_,_,h⟩:=h;exact ih cs (hr cs) h
 | rdm b cont ih=>obtain ⟨es,_,_,h⟩:=h;exact ih es (hr es) h
 | rdh q b off n cont ih=>obtain ⟨_,cs,_,h⟩:=h;exact ih cs (hr cs) h
 | eqk l n cont ih=>obtain ⟨cs,_,_,h⟩:=h;exact ih cs (hr cs) h
 | eqs l n cont ih=>obtain ⟨cs,_,_,h⟩:=h;exact ih cs (hr cs) h
 | keyk kt kv es cont ih=>obtain ⟨r,_,h⟩:=h;exact ih r (hr r) h
 | pur s cont ih=>obtain ⟨r,_,h⟩:=h;exact ih r (hr r) h
 | hpk p b cont ih=>obtain ⟨cs,t,_,h⟩:=h;exact ih cs t (hr cs t) h
 | appn p n vs t k=>exact h.1
 | newh p u o=>exact h.1
 | new ob sv=>exact h.2.2
 | set h' ob sv=>exact h.2.2
 | app hs n vs t k=>exact h.2.1
 | call s args=>exact hr.elim
 | give=>exact hr.elim
 | callv H v args=>exact hr.elim
 | bad=>exact h.elim
theorem still_grow {r:Res} (hr:Still r) {Gr':Hp} (hg:Grow Gr Gr') (ho:Ob P Gr r):Ob P Gr' r∧∀ sv hu p,Ef P hid Gr' r sv hu p→Ef P hid Gr r sv hu p:=by
 induction r with
 | obl φ r ih=>exact ⟨⟨ho.1,(ih hr ho.2).1⟩,(ih hr ho.2).2⟩
 | ite φ r s ih1 ih2 =>
  refine ⟨⟨fun e=>(ih1 hr.1 (ho.1 e)).1,fun e=>(ih2 hr.2 (ho.2 e)).1⟩, ?_⟩
  rintro sv hu p (⟨e,h⟩ | ⟨e,h⟩)
  ·exact .inl ⟨e,(ih1 hr.1 (ho.1 e)).2 _ _ _ h⟩
  ·exact .inr ⟨e,(ih2 hr.2 (ho.2 e)).2 _ _ _ h⟩
 | rdk b off n cont ih =>
  obtain ⟨cs,h1,h2,h3⟩:=ho
  have ih:=ih cs (hr cs) h3
  refine ⟨⟨cs,h1,h2.grow hg,ih.1⟩, ?_⟩
  rintro sv hu p ⟨cs',h1',h2',h⟩
  have:cs' = cs:=h2'.eq (h2.grow hg) (by omega)
  subst this
  exact ⟨cs',h1,h2,ih.2 _ _ _ h⟩
 | rdm b cont ih =>
  obtain ⟨es,c,h1,h3⟩:=ho
  have ih:=ih es (hr es) h3
  refine ⟨⟨es,c,hg _ _ h1,ih.1⟩, ?_⟩
  rintro sv hu p ⟨es',c',h1',h⟩
  obtain ⟨rfl,rfl⟩:es = es'∧c = c':=by rw [hg _ _ h1] at h1';cases h1';exact ⟨rfl,rfl⟩
  exact ⟨es,c,h1,ih.2 _ _ _ h⟩
 | rdh q b off n cont ih =>
  obtain ⟨cs,h1,h3⟩:=ho
  refine ⟨⟨cs,h1.grow hg,fun d=>(ih cs (hr cs) (h3 (d.anti hg))).1⟩, ?_⟩
  rintro sv hu p ⟨d,cs',h1',h⟩
  have:=(h1.grow hg).uniq h1' d
  subst this
  exact ⟨d.anti hg,_,h1,(ih _ (hr _) (h3 (d.anti hg))).2 _ _ _ h⟩
 | eqk l n cont ih =>
  obtain ⟨cs,h1,h2,h3⟩:=ho
  have ih:=ih cs (hr cs) h3
  refine ⟨⟨cs,h1,h2,ih.1⟩, ?_⟩
  rintro sv hu p ⟨cs',h1',h2',h⟩
  have:cs' = cs:=h1'.symm.trans h1
  subst this
  exact ⟨cs',h1,h2,ih.2 _ _ _ h⟩
 | eqs l n cont ih =>
  obtain ⟨cs,h1,h2,h3⟩:=ho
  have ih:=ih cs (hr cs) h3
  refine ⟨⟨cs,h1,h2,ih.1⟩, ?_⟩
  rintro sv hu p ⟨cs',h1',h2',h⟩
  have:cs' = cs:=h1'.symm.trans h1
  subst this
  exact ⟨cs',h1,h2,ih.2 _ _ _ h⟩
 | keyk kt kv es cont ih =>
  obtain ⟨r,h1,h2⟩:=ho
  have ih:=ih r (hr r) h2
  refine ⟨⟨r,h1,ih.1⟩, ?_⟩
  rintro sv hu p ⟨r',h1',h⟩
  have:=keyFind_uniq h1' h1
  subst this
  exact ⟨r',h1,ih.2 _ _ _ h⟩
 | pur s cont ih =>
  obtain ⟨r,h1,h2⟩:=ho
  have ih:=ih r (hr r) h2
  refine ⟨⟨r,h1,ih.1⟩, ?_⟩
  rintro sv hu p ⟨r',h1',h⟩
  have:=pur_uniq h1' h1
  subst this
  exact ⟨r',h1,ih.2 _ _ _ h⟩
 | hpk p b cont ih =>
  obtain ⟨cs,t,h1,h2⟩:=ho
  have ih:=ih cs t (hr cs t) h2
  refine ⟨⟨cs,t,h1,ih.1⟩, ?_⟩
  rintro sv hu q ⟨cs',t',h1',h⟩
  obtain ⟨rfl,rfl⟩:=hpk_uniq h1 h1'
  exact ⟨_,_,h1,ih.2 _ _ _ h⟩
 | call s args=>exact hr.elim
 | callv H v args=>exact hr.elim
 | _=>exact ⟨ho,fun _ _ _ h=>h⟩
theorem monoR_grow {r:Res} (hr:MonoR r) {Gr':Hp} (hg:Grow Gr Gr') (ho:Ob P Gr r):Ob P Gr' r∧∀ sv hu p,Ef P hid Gr' r sv hu p→Ef P hid Gr r sv hu p:=by
 induction r with
 | obl φ r ih=>exact ⟨⟨ho.1,(ih hr ho.2).1⟩,(ih hr ho.2).2⟩
 | ite φ r s ih1 ih2 =>
  refine ⟨⟨fun e=>(ih1 hr.1 (ho.1 e)).1,fun e=>(ih2 hr.2 (ho.2 e)).1⟩, ?_⟩
  rintro sv hu p (⟨e,h⟩ | ⟨e,h⟩)
  ·exact .inl ⟨e,(ih1 hr.1 (ho.1 e)).2 _ _ _ h⟩
  ·exact .inr ⟨e,(ih2 hr.2 (ho.2 e)).2 _ _ _ h⟩
 | rdk b off n cont ih =>
  obtain ⟨cs,h1,h2,h3⟩:=ho
  have ih:=ih cs (hr cs) h3
  refine ⟨⟨cs,h1,h2.grow hg,ih.1⟩, ?_⟩
  rintro sv hu p ⟨cs',h1',h2',h⟩
  have:cs' = cs:=h2'.eq (h2.grow hg) (by omega)
  subst this
  exact ⟨cs',h1,h2,ih.2 _ _ _ h⟩
 | rdm b cont ih =>
  obtain ⟨es,c,h1,h3⟩:=ho
  have ih:=ih es (hr es) h3
  refine ⟨⟨es,c,hg _ _ h1,ih.1⟩, ?_⟩
  rintro sv hu p ⟨es',c',h1',h⟩
  obtain ⟨rfl,rfl⟩:es = es'∧c = c':=by rw [hg _ _ h1] at h1';cases h1';exact ⟨rfl,rfl⟩
  exact ⟨es,c,h1,ih.2 _ _ _ h⟩
 | rdh q b off n cont ih =>
  obtain ⟨cs,h1,h3⟩:=ho
  refine ⟨⟨cs,h1.grow hg,fun d=>(ih cs (hr cs) (h3 (d.anti hg))).1⟩, ?_⟩
  rintro sv hu p ⟨d,cs',h1',h⟩
  have:=(h1.grow hg).uniq h1' d
  subst this
  exact ⟨d.anti hg,_,h1,(ih _ (hr _) (h3 (d.anti hg))).2 _ _ _ h⟩
 | eqk l n cont ih =>
  obtain ⟨cs,h1,h2,h3⟩:=ho
  have ih:=ih cs (hr cs) h3
  refine ⟨⟨cs,h1,h2,ih.1⟩, ?_⟩
  rintro sv hu p ⟨cs',h1',h2',h⟩
  have:cs' = cs:=h1'.symm.trans h1
  subst this
  exact ⟨cs',h1,h2,ih.2 _ _ _ h⟩
 | eqs l n cont ih =>
  obtain ⟨cs,h1,h2,h3⟩:=ho
  have ih:=ih cs (hr cs) h3
  refine ⟨⟨cs,h1,h2,ih.1⟩, ?_⟩
  rintro sv hu p ⟨cs',h1',h2',h⟩
  have:cs' = cs:=h1'.symm.trans h1
  subst this
  exact ⟨cs',h1,h2,ih.2 _ _ _ h⟩
 | keyk kt kv es cont ih =>
  obtain ⟨r,h1,h2⟩:=ho
  have ih:=ih r (hr r) h2
  refine ⟨⟨r,h1,ih.1⟩, ?_⟩
  rintro sv hu p ⟨r',h1',h⟩
  have:=keyFind_uniq h1' h1
  subst this
  exact ⟨r',h1,ih.2 _ _ _ h⟩
 | pur s cont ih =>
  obtain ⟨r,h1,h2⟩:=ho
  have ih:=ih r (hr r) h2
  refine ⟨⟨r,h1,ih.1⟩, ?_⟩
  rintro sv hu p ⟨r',h1',h⟩
  have:=pur_uniq h1' h1
  subst this
  exact ⟨r',h1,ih.2 _ _ _ h⟩
 | hpk p b cont ih =>
  obtain ⟨cs,t,h1,h2⟩:=ho
  have ih:=ih cs t (hr cs t) h2
  refine ⟨⟨cs,t,h1,ih.1⟩, ?_⟩
  rintro sv hu q ⟨cs',t',h1',h⟩
  obtain ⟨rfl,rfl⟩:=hpk_uniq h1 h1'
  exact ⟨_,_,h1,ih.2 _ _ _ h⟩
 | call s args =>
  cases s with
  | fn pre val=>exact ⟨hr _ _ _ hg ho,fun sv hu p h=>h⟩
  | sca pre post =>
   refine ⟨(hr _ _ _ hg ho).1, ?_⟩
   rintro sv hu p ⟨v,h1,h2⟩
   exact ⟨v,(hr _ _ _ hg ho).2 v h1,h2⟩
  | rel pre post=>exact ⟨hr _ _ _ hg ho,fun sv hu p h=>h⟩
  | own t k pre post=>exact ⟨hr _ _ _ hg ho,fun sv hu p h=>h⟩
  | st pre post=>exact ho.elim
  | seq pre post=>exact ho.elim
  | cut=>exact ho.elim
  | hp=>exact ho.elim
 | callv H v args=>exact hr.elim
 | _=>exact ⟨ho,fun _ _ _ h=>h⟩

end

/-! ### What an operation looks at -/

def looksP:List (Nat × Opd)→List Nat
 | []=>[]
 | (_,x) :: r=>x.looks++looksP r
def looksO:Option Opd→List Nat
 | none=>[]
 | some x=>x.looks
def IOp.looks:IOp→List Nat
 | .mv x=>x.looks
 | .pick c a b=>c.looks++a.looks++b.looks
 | .bin _ x y=>x.looks++y.looks
 | .un _ x=>x.looks
 | .conv _ x=>x.looks
 | .box _ x=>x.looks
 | .alloc _ _=>[]
 | .load _ _ x=>x.looks
 | .store _ x v=>x.looks++v.looks
 | .faddr _ x=>x.looks
 | .iaddr _ x i=>x.looks++i.looks
 | .fld _ _ _ x=>x.looks
 | .bld _ _ parts=>looksP parts
 | .bsl _ _ _ _ parts=>looksP parts
 | .bslp _ _ _ _ parts=>looksP parts
 | .bslx _ _ _ _ parts=>looksP parts
 | .len x=>x.looks
 | .lenS x=>x.looks
 | .app _ _ _ s x=>s.looks++x.looks
 | .apph _ _ _ s x=>s.looks++x.looks
 | .s2b _ x=>x.looks
 | .cut _ s args=>s.looks++looksL args
 | .cpy _ d s=>d.looks++s.looks
 | .cap x=>x.looks
 | .appz _ _ _ _ s x=>s.looks++x.looks
 | .clr _ x=>x.looks
 | .nilc x=>x.looks
 | .ext x _=>x.looks
 | .call _ args=>looksL args
 | .callv x args=>x.looks++looksL args
 | .mm _ x y=>x.looks++y.looks
 | .slc _ x lo hi top=>x.looks++looksO lo++looksO hi++looksO top
 | .mks _ _ _ _ n=>n.looks
 | .mksp _ _ _ _ n=>n.looks
 | .aaddr _ _ x i=>x.looks++i.looks
 | .mkf _ first caps=>looksL first++looksL caps
 | .mkm=>[]
 | .lkp _ _ _ x key=>x.looks++key.looks
 | .mup _ m key v=>m.looks++key.looks++v.looks
 | .pur _ xs=>looksL xs
 | .rng x=>x.looks
 | .lenM x=>x.looks
 | .nxt x=>x.looks
 | .ety x=>x.looks
 | .del _ m key=>m.looks++key.looks
 | .bxh _ x=>x.looks
 | .mkmh=>[]
 | .bslh _ _ _ _ parts=>looksP parts
def IOp.isCall:IOp→Bool
 | .call ..=>true
 | .callv ..=>true
 | .bslp ..=>true
 | .bslx ..=>true
 | .mksp ..=>true
 | .s2b ..=>true
 | .cut ..=>true
 | _=>false
def IOp.mod:IOp→Bool
 | .store ..=>true
 | .app ..=>true
 | .apph ..=>true
 | .mup ..=>true
 | .cut ..=>true
 | .cpy ..=>true
 | .clr ..=>true
 | .appz ..=>true
 | .rng ..=>true
 | .nxt ..=>true
 | .del ..=>true
 | .bxh ..=>true
 | .mkmh=>true
 | .bslh ..=>true
 | _=>false
def IOp.noH:IOp→Bool
 | .load ..=>false
 | .store ..=>false
 | .iaddr ..=>false
 | .app ..=>false
 | .apph ..=>false
 | .cut ..=>false
 | .cpy ..=>false
 | .clr ..=>false
 | .appz ..=>false
 | .call ..=>false
 | .callv ..=>false
 | .slc ..=>false
 | .mkf ..=>false
 | .lkp ..=>false
 | .lenM ..=>false
 | .mup ..=>false
 | .pur ..=>false
 | .rng ..=>false
 | .nxt ..=>false
 | .ety ..=>false
 | .del ..=>false
 | .bxh ..=>false
 | .mkmh=>false
 | .bslh ..=>false
 | _=>true

section
variable {tab:FuncId→Option PSpec} {fr fr':Nat→SV} {H H':Nat→Option OB} {hid:Nat}

theorem opd_congr {x:Opd} (h:∀ t∈x.looks,fr t = fr' t):x.ev fr = x.ev fr':=by
 cases x with
 | t i=>exact h i (by simp [Opd.looks])
 | k v=>rfl
 | f g=>rfl
theorem evArgs_congr:∀ {l:List Opd},(∀ t∈looksL l,fr t = fr' t)→evArgs fr l = evArgs fr' l
 | [],_=>rfl
 | x :: r,h=>by
  simp only [evArgs,opd_congr (x:=x) (fun t ht=>h t (by simp [looksL,ht])),evArgs_congr (l:=r) (fun t ht=>h t (by simp [looksL,ht]))]
theorem evParts_congr:∀ {l:List (Nat × Opd)},(∀ t∈looksP l,fr t = fr' t)→evParts fr l = evParts fr' l
 | [],_=>rfl
 | (i,x) :: r,h=>by
  simp only [evParts,opd_congr (x:=x) (fun t ht=>h t (by simp [looksP,ht])),evParts_congr (l:=r) (fun t ht=>h t (by simp [looksP,ht]))]

theorem bndR_congr {x:Option Opd} {d:Nat} {cont:Int→Res} (h:∀ t∈looksO x,fr t = fr' t):bndR fr x d cont = bndR fr' x d cont:=by
 cases x with
 | none=>rfl
 | some y=>simp only [bndR,opd_congr (x:=y) h]

theorem ev_congr {op:IOp} (h:∀ t∈op.looks,fr t = fr' t):ev tab fr H hid op = ev tab fr' H hid op:=by
 cases op with
 | mv x=>simp only [ev,opd_congr (x:=x) h]
 | pick c a b=>simp only [ev,opd_congr (x:=c) (fun t ht=>h t (by simp [IOp.looks,ht])),opd_congr (x:=a) (fun t ht=>h t (by simp [IOp.looks,ht])),opd_congr (x:=b) (fun t ht=>h t (by simp [IOp.looks,ht]))]
 | bin _ x y=>simp only [ev,opd_congr (x:=x) (fun t ht=>h t (by simp [IOp.looks,ht])),opd_congr (x:=y) (fun t ht=>h t (by simp [IOp.looks,ht]))]
 | un _ x=>simp only [ev,opd_congr (x:=x) h]
 | conv _ x=>simp only [ev,opd_congr (x:=x) h]
 | box _ x=>simp only [ev,opd_congr (x:=x) h]
 | alloc _ _=>rfl
 | load _ _ x=>simp only [ev,opd_congr (x:=x) h]
 | store _ x y=>simp only [ev,opd_congr (x:=x) (fun t ht=>h t (by simp [IOp.looks,ht])),opd_congr (x:=y) (fun t ht=>h t (by simp [IOp.looks,ht]))]
 | faddr _ x=>simp only [ev,opd_congr (x:=x) h]
 | iaddr _ x y=>simp only [ev,opd_congr (x:=x) (fun t ht=>h t (by simp [IOp.looks,ht])),opd_congr (x:=y) (fun t ht=>h t (by simp [IOp.looks,ht]))]
 | fld _ _ _ x=>simp only [ev,opd_congr (x:=x) h]
 | bld _ _ parts=>simp only [ev,evParts_congr (l:=parts) h]
 | bsl _ _ _ _ parts=>simp only [ev,evParts_congr (l:=parts) h]
 | bslp _ _ _ _ parts=>simp only [ev,evParts_congr (l:=parts) h]
 | bslx _ _ _ _ parts=>simp only [ev,evParts_congr (l:=parts) h]
 | len x=>simp only [ev,opd_congr (x:=x) h]
 | lenS x=>simp only [ev,opd_congr (x:=x) h]
 | lenM x=>simp only [ev,opd_congr (x:=x) h]
 | app _ _ _ x y=>simp only [ev,opd_congr (x:=x) (fun t ht=>h t (by simp [IOp.looks,ht])),opd_congr (x:=y) (fun t ht=>h t (by simp [IOp.looks,ht]))]
 | nilc x=>simp only [ev,opd_congr (x:=x) h]
 | s2b _ x=>simp only [ev,opd_congr (x:=x) h]
 | appz _ _ _ _ x y=>simp only [ev,opd_congr (x:=x) (fun t ht=>h t (by simp [IOp.looks,ht])),opd_congr (x:=y) (fun t ht=>h t (by simp [IOp.looks,ht]))]
 | cap x=>simp only [ev,opd_congr (x:=x) h]
 | clr _ x=>simp only [ev,opd_congr (x:=x) h]
 | cpy _ x y=>simp only [ev,opd_congr (x:=x) (fun t ht=>h t (by simp [IOp.looks,ht])),opd_congr (x:=y) (fun t ht=>h t (by simp [IOp.looks,ht]))]
 | cut f x args=>simp only [ev,opd_congr (x:=x) (fun t ht=>h t (by simp [IOp.looks,ht])),evArgs_congr (l:=args) (fun t ht=>h t (by simp [IOp.looks,ht]))]
 | apph _ _ _ x y=>simp only [ev,opd_congr (x:=x) (fun t ht=>h t (by simp [IOp.looks,ht])),opd_congr (x:=y) (fun t ht=>h t (by simp [IOp.looks,ht]))]
 | ext x _=>simp only [ev,opd_congr (x:=x) h]
 | call _ args=>simp only [ev,evArgs_congr (l:=args) h]
 | callv x args=>simp only [ev,opd_congr (x:=x) (fun t ht=>h t (by simp [IOp.looks,ht])),evArgs_congr (l:=args) (fun t ht=>h t (by simp [IOp.looks,ht]))]

 | mm _ x y=>simp only [ev,opd_congr (x:=x) (fun t ht=>h t (by simp [IOp.looks,ht])),opd_congr (x:=y) (fun t ht=>h t (by simp [IOp.looks,ht]))]
 | slc k x lo hi top=>simp only [ev,opd_congr (x:=x) (fun t ht=>h t (by simp [IOp.looks,ht])),bndR_congr (x:=lo) (fun t ht=>h t (by simp [IOp.looks,ht])),bndR_congr (x:=hi) (fun t ht=>h t (by simp [IOp.looks,ht])),bndR_congr (x:=top) (fun t ht=>h t (by simp [IOp.looks,ht]))]
 | mks _ _ _ _ n=>simp only [ev,opd_congr (x:=n) h]
 | mksp _ _ _ _ n=>simp only [ev,opd_congr (x:=n) h]
 | aaddr _ _ x y=>simp only [ev,opd_congr (x:=x) (fun t ht=>h t (by simp [IOp.looks,ht])),opd_congr (x:=y) (fun t ht=>h t (by simp [IOp.looks,ht]))]
 | mkf f first caps=>simp only [ev,evArgs_congr (l:=first) (fun t ht=>h t (by simp [IOp.looks,ht])),evArgs_congr (l:=caps) (fun t ht=>h t (by simp [IOp.looks,ht]))]

 | bxh _ x=>simp only [ev,opd_congr (x:=x) h]
 | mkmh=>rfl
 | bslh _ _ _ _ parts=>simp only [ev,evParts_congr (l:=parts) h]
 | mkm=>rfl
 | pur _ xs=>simp only [ev,evArgs_congr (l:=xs) h]
 | rng _=>rfl
 | nxt _=>rfl
 | ety _=>rfl
 | del _ x y=>simp only [ev,opd_congr (x:=x) (fun t ht=>h t (by simp [IOp.looks,ht])),opd_congr (x:=y) (fun t ht=>h t (by simp [IOp.looks,ht]))]
 | lkp _ _ _ x y=>simp only [ev,opd_congr (x:=x) (fun t ht=>h t (by simp [IOp.looks,ht])),opd_congr (x:=y) (fun t ht=>h t (by simp [IOp.looks,ht]))]
 | mup _ x y z=>simp only [ev,opd_congr (x:=x) (fun t ht=>h t (by simp [IOp.looks,ht])),opd_congr (x:=y) (fun t ht=>h t (by simp [IOp.looks,ht])),opd_congr (x:=z) (fun t ht=>h t (by simp [IOp.looks,ht]))]

theorem ev_noH {op:IOp} (h:op.noH = true):ev tab fr H hid op = ev tab fr H' hid op:=by
 cases op<;>first | rfl | (simp [IOp.noH] at h)

theorem srcR_all {k:Nat} {x:SV} {cont:Nat→List Value→Res} {Z:Res→Prop} (hb:Z .bad) (ho:∀ φ r,Z r→Z (.obl φ r)) (hr:(∀ b off n c,(∀ cs,Z (c cs))→Z (.rdk b off n c))∧∀ p b off n c,(∀ cs,Z (c cs))→Z (.rdh p b off n c)) (hc:∀ m us,Z (cont m us)):Z (srcR H k x cont):=by
 unfold srcR
 split
 ·split
  ·cases Nat.beq _ k with
   | true=>exact ho _ _ (hc _ _)
   | false=>exact hb
  ·cases Nat.beq _ k with
   | true=>exact ho _ _ (hc _ _)
   | false=>exact hb
  ·exact hb
 ·split
  ·exact ho _ _ (hr.2 _ _ _ _ _ fun cs=>ho _ _ (hc _ _))
  ·exact ho _ _ (hr.1 _ _ _ _ fun cs=>ho _ _ (hc _ _))
 ·exact hb

theorem binR_all {op:BinOp} {x y:S1} {Z:Res→Prop} (hb:Z .bad) (ho:∀ φ r,Z r→Z (.obl φ r)) (hi:∀ φ r s,Z r→Z s→Z (.ite φ r s)) (hk:∀ sv,Z (.ok sv)):Z (binR op x y):=by
 unfold binR
 split
 ·rename_i k a k' b
  cases decide (k = k') with
  | true =>
   simp only [cond_true]
   split<;>first | exact hb | exact ho _ _ (hk _) | exact hi _ _ _ (hk _) (hk _)
  | false=>exact hb
 ·exact hb

theorem ev_all {op:IOp} {Z:Res→Prop} (hb:Z .bad) (ho:∀ φ r,Z r→Z (.obl φ r)) (hi:∀ φ r s,Z r→Z s→Z (.ite φ r s)) (hk:∀ sv,Z (.ok sv)) (hr:(∀ b off n c,(∀ cs,Z (c cs))→Z (.rdk b off n c))∧∀ p b off n c,(∀ cs,Z (c cs))→Z (.rdh p b off n c)) (he:∀ l n c,(∀ cs,Z (c cs))→Z (.eqk l n c)) (hes:∀ l n c,(∀ cs,Z (c cs))→Z (.eqs l n c)) (hky:(∀ kt kv es c,(∀ r,Z (c r))→Z (.keyk kt kv es c))∧∀ b c,(∀ es,Z (c es))→Z (.rdm b c)) (hpu:∀ s c,(∀ r,Z (c r))→Z (.pur s c))
  (hn:∀ ob sv,Z (.new ob sv)) (hs:∀ h ob ob' sv,op.mod = true→H h = some ob'→Z (.set h ob sv)) (ha:∀ hs n vs t k,(∀ h,hs = some h→op.mod = true∧∃ ob,H h = some ob)→Z (.app hs n vs t k)) (hc:∀ f s os args,op.isCall = true→tab f = some s→Z (.call (PSpec.lendH H (PSpec.lend os s)) args)) (hv:∀ H v args,op.isCallv = true→Z (.callv H v args)) (hbp:(∀ n vs,op.isCall = true→Z (.call (rowS n vs) []))∧∀ n vs,op.isCall = true→Z (.call (rowX n vs) [])) (hhp:∀ p b c,(∀ cs t,Z (c cs t))→Z (.hpk p b c)) (han:(∀ p n vs t k,op.mod = true→(∃ ob,H 0 = some ob)→Z (.appn p n vs t k))∧∀ p u o,op.mod = true→(∃ ob,H 0 = some ob)→Z (.newh p u o)) (hgi:∀ h n vs,op.mod = true→op.isCall = true→(∃ ob,H h = some ob)→Z (.give h n vs)):Z (ev tab fr H hid op):=by
 cases op with
 | bin op x y=>simp only [ev];split<;>first | exact hb | exact binR_all hb ho hi hk
 | app t k bytes s x =>
  simp only [ev]
  split
  ·split
   ·rename_i hH
    cases (Nat.beq _ k && Nat.beq _ t) with
    | true=>exact srcR_all hb ho hr fun m us=>ho _ _ (ho _ _ (ha _ _ _ _ _ (fun h e=>by cases e;exact ⟨rfl,_,hH⟩)))
    | false=>exact hb
   ·rename_i hH
    cases (Nat.beq _ k && Nat.beq _ t) with
    | true=>exact srcR_all hb ho hr fun m us=>ho _ _ (ho _ _ (hi _ _ _ (hs _ _ _ _ rfl hH) (hn _ _)))
    | false=>exact hb
   ·exact hb
  ·exact srcR_all hb ho hr fun m us=>ho _ _ (ha _ _ _ _ _ (fun h e=>by cases e))
  ·exact ho _ _ (hr.1 _ _ _ _ fun cs=>ho _ _ (srcR_all hb ho hr fun m us=>ho _ _ (ha _ _ _ _ _ (fun h e=>by cases e))))
  ·exact hb
 | apph t k bytes s x =>
  simp only [ev]
  split
  ·rename_i hH
   split
   ·exact srcR_all hb ho hr fun m us=>ho _ _ (han.1 _ _ _ _ _ rfl ⟨_,hH⟩)
   ·exact hhp _ _ _ fun cs t=>ho _ _ (srcR_all hb ho hr fun m us=>ho _ _ (hi _ _ _ (hs _ _ _ _ rfl hH) (han.1 _ _ _ _ _ rfl ⟨_,hH⟩)))
   ·exact hb
  ·exact hb
 | bxh t x =>
  simp only [ev]
  split
  ·rename_i hH
   split
   ·cases allOne _ with
    | true=>exact han.2 _ _ _ rfl ⟨_,hH⟩
    | false=>exact hb
   ·exact hb
  ·exact hb
 | mkmh =>
  simp only [ev]
  split
  ·rename_i hH
   exact han.2 _ _ _ rfl ⟨_,hH⟩
  ·exact hb
 | bslh t k len zs parts =>
  simp only [ev]
  split
  ·rename_i hH
   split
   ·split
    ·cases allOne _ with
     | true=>exact han.2 _ _ _ rfl ⟨_,hH⟩
     | false=>exact hb
    ·exact hb
   ·exact hb
  ·exact hb
 | s2b t x =>
  simp only [ev]
  split
  ·exact hbp.1 _ _ rfl
  ·exact hb
 | appz t k bytes zs s x =>
  simp only [ev]
  split
  ·rename_i hH
   split
   ·exact hhp _ _ _ fun cs t=>ho _ _ (han.1 _ _ _ _ _ rfl ⟨_,hH⟩)
   ·exact hb
  ·exact hb
 | clr zs x =>
  simp only [ev]
  split
  ·rename_i hH
   split
   ·exact hhp _ _ _ fun cs t=>ho _ _ (hs _ _ _ _ rfl hH)
   ·exact hb
  ·exact hb
 | cpy k d s =>
  simp only [ev]
  split
  ·rename_i hH
   split
   ·exact ho _ _ (hr.2 _ _ _ _ _ fun us=>ho _ _ (hhp _ _ _ fun cs t=>ho _ _ (hs _ _ _ _ rfl hH)))
   ·exact hb
  ·exact hb
 | cut f s args =>
  simp only [ev]
  split
  ·split
   ·rename_i hH
    split
    ·split
     ·cases (Nat.beq _ _ && Nat.beq _ _) with
      | true=>exact ho _ _ (hgi _ _ _ rfl rfl ⟨_,hH⟩)
      | false=>exact hb
     ·exact hb
    ·exact hb
   ·exact hb
  ·exact hb
 | load n agg x =>
  simp only [ev]
  split
  ·split
   ·cases Nat.beq _ n with
    | true=>exact hk _
    | false=>exact hb
   ·exact hb
  ·split
   ·exact he _ _ _ fun cs=>hk _
   ·exact he _ _ _ fun cs=>hk _
   ·exact hb
  ·split
   ·exact hes _ _ _ fun cs=>hk _
   ·exact hb
  ·split
   ·exact hr.2 _ _ _ _ _ fun cs=>hk _
   ·exact hr.1 _ _ _ _ fun cs=>hk _
  ·exact hb
 | store n x v =>
  simp only [ev]
  split
  ·split
   ·rename_i hH
    cases (Nm.own _ && allOne _ && Nat.beq _ n && Nat.ble _ _) with
    | true=>exact hs _ _ _ _ rfl hH
    | false=>exact hb
   ·exact hb
  ·split
   ·rename_i hH
    cases (Nm.own _ && allOne _ && Nat.beq _ n) with
    | true=>exact ho _ _ (hs _ _ _ _ rfl hH)
    | false=>exact hb
   ·exact hb
  ·split
   ·rename_i hH
    split
    ·cases (allOne _ && Nat.beq _ n) with
     | true=>exact ho _ _ (hs _ _ _ _ rfl hH)
     | false=>exact hb
    ·exact hb
   ·rename_i hH
    split
    ·cases (allOne _ && Nat.beq _ n) with
     | true=>exact ho _ _ (hs _ _ _ _ rfl hH)
     | false=>exact hb
    ·exact hb
   ·exact hb
  ·split
   ·rename_i hH
    split
    ·cases (allOne _ && Nat.beq _ n) with
     | true=>exact hhp _ _ _ fun cs t=>ho _ _ (hs _ _ _ _ rfl hH)
     | false=>exact hb
    ·exact hb
   ·exact hb
  ·exact hb
 | iaddr k x i =>
  simp only [ev]
  split
  ·split
   ·exact ho _ _ (ho _ _ (hk _))
   ·split
    ·cases Nat.beq _ k with
     | true=>exact ho _ _ (ho _ _ (hk _))
     | false=>exact hb
    ·cases Nat.beq _ k with
     | true=>exact ho _ _ (ho _ _ (hk _))
     | false=>exact hb
    ·exact hb
   ·exact hb
  ·exact hb
 | call f args =>
  simp only [ev]
  split
  ·split
   ·exact hc _ _ _ _ rfl ‹_›
   ·exact hb
  ·exact hb
 | callv x args =>
  simp only [ev]
  split
  ·split
   ·exact hv _ _ _ rfl
   ·exact hb
  ·exact hb
 | box t x =>
  simp only [ev]
  cases allOne _ with
  | true=>exact hn _ _
  | false=>exact hb
 | fld off n agg x =>
  simp only [ev]
  split
  ·cases Nat.beq _ n with
   | true=>exact hk _
   | false=>exact hb
  ·exact hb
 | bsl t k len zs parts =>
  simp only [ev]
  split
  ·split
   ·cases allOne _ with
    | true=>exact hn _ _
    | false=>exact hb
   ·exact hb
  ·exact hb
 | bslp t k len zs parts =>
  simp only [ev]
  split
  ·split
   ·cases allOne _ with
    | true=>exact hbp.1 _ _ rfl
    | false=>exact hb
   ·exact hb
  ·exact hb
 | bslx t k len zs parts =>
  simp only [ev]
  split
  ·split
   ·cases allOne _ with
    | true=>exact hbp.2 _ _ rfl
    | false=>exact hb
   ·exact hb
  ·exact hb
 | slc k x lo hi top =>
  simp only [ev]
  have bnd:∀ {y:Option Opd} {d:Nat} {cont:Int→Res},(∀ i,Z (cont i))→Z (bndR fr y d cont):=fun {y d cont} h=>by
   cases y with
   | none=>exact h _
   | some z =>
    simp only [bndR]
    split
    ·exact h _
    ·exact hb
  split
  ·exact bnd fun l=>bnd fun h=>bnd fun m=>ho _ _ (hk _)
  ·exact hb
 | mks t k bytes zs n =>
  simp only [ev]
  split
  ·exact ho _ _ (hn _ _)
  ·exact hb
 | mksp t k bytes zs n =>
  simp only [ev]
  split
  ·exact ho _ _ (hbp.1 _ _ rfl)
  ·exact hb
 | lenM x =>
  simp only [ev]
  split
  ·split
   ·exact hk _
   ·exact hb
  ·split
   ·exact ho _ _ (hk _)
   ·exact hky.2 _ _ fun es=>hk _
  ·exact hb
 | lkp kt z ok x key =>
  simp only [ev]
  split
  ·split
   ·split
    ·exact hky.1 _ _ _ _ fun r=>hk _
    ·exact hb
   ·exact hky.1 _ _ _ _ fun r=>hk _
   ·split
    ·exact ho _ _ (hky.1 _ _ _ _ fun r=>hk _)
    ·exact hky.2 _ _ fun es=>hky.1 _ _ _ _ fun r=>hk _
   ·exact hb
  ·exact hb
 | del kt m key =>
  simp only [ev]
  split
  ·split
   ·split
    ·rename_i hH
     exact ho _ _ (hky.1 _ _ _ _ fun r=>hs _ _ _ _ rfl hH)
    ·exact hb
   ·exact hb
  ·exact hb
 | mup kt m key v =>
  simp only [ev]
  split
  ·split
   ·split
    ·split
     ·rename_i hH
      exact hky.1 _ _ _ _ fun r=>hs _ _ _ _ rfl hH
     ·exact hb
    ·split
     ·rename_i hH
      exact ho _ _ (hky.1 _ _ _ _ fun r=>hs _ _ _ _ rfl hH)
     ·exact hb
    ·exact hb
   ·exact hb
  ·exact hb
 | mkm=>exact hn _ _
 | pur p xs =>
  simp only [ev]
  split
  ·exact hpu _ _ fun r=>hk _
  ·exact hb
 | _ =>
  simp only [ev]
  repeat' split
  all_goals first | exact hb | exact hk _ | exact ho _ _ (hk _) | exact hn _ _

theorem monoS_lend {os:List (Nat × Obj)} {s:PSpec} {args:List Value}:MonoS args (s.lend os)↔MonoS args s:=by
 cases os with
 | nil=>exact Iff.rfl
 | cons o r=>cases s<;>exact Iff.rfl
theorem monoP_lend {os:List (Nat × Obj)} {s:PSpec} (h:MonoP s):MonoP (s.lend os):=by
 cases os with
 | nil=>exact h
 | cons o r =>
  cases s with
  | fn pre val=>exact fun args G G' hg hp G1 hg1=>hp G1 (hg.trans hg1)
  | sca pre post=>exact fun args G G' hg hp=>⟨fun G1 hg1=>hp G1 (hg.trans hg1),fun v ⟨G1,hg1,h1,h2⟩=>⟨G1,hg.trans hg1,h1,h2⟩⟩
  | rel=>exact h
  | own=>exact h
  | st=>exact h
  | seq=>exact h
  | cut=>exact h
  | hp=>exact h
theorem monoS_lendH {H:Nat→Option OB} {s:PSpec} {args:List Value} (h:MonoS args s) (hh:∀ pre post,s = .hp pre post→∀ p v G G',Grow G G'→post args p v p G→post args p v p G'):MonoS args (s.lendH H):=by
 unfold PSpec.lendH
 split
 ·rename_i p _
  cases s with
  | hp pre post=>exact fun v G G' hg hq=>hh pre post rfl p v G G' hg hq
  | fn=>trivial
  | sca=>trivial
  | rel=>exact h
  | own=>exact h
  | st=>trivial
  | seq=>trivial
  | cut=>trivial
 ·exact h
theorem Over.anti {p G G' G1:Hp} (h:Over p G' G1) (g:Grow G G'):∃ G2,Over p G G2∧Grow G2 G1:=by
 refine ⟨fun b=>match p b with
  | some o=>some o
  | none=>G b,⟨fun b o e=>?_,fun b o e=>by simp [e],fun b o e=>?_⟩,fun b o e=>?_⟩
 ·dsimp only
  cases hp:p b with
  | none=>exact e
  | some o' =>
   have h1:=h.1 b o (g b o e)
   have h2:=h.2.1 b o' hp
   rw [h1] at h2
   exact h2.symm
 ·dsimp only at e
  cases hp:p b with
  | none=>rw [hp] at e;exact .inl e
  | some o'=>rw [hp] at e;cases e;exact .inr rfl
 ·dsimp only at e
  cases hp:p b with
  | none=>rw [hp] at e;exact h.1 b o (g b o e)
  | some o'=>rw [hp] at e;cases e;exact h.2.1 b _ hp
theorem monoP_lendH {H:Nat→Option OB} {s:PSpec} (h:MonoP s):MonoP (s.lendH H):=by
 unfold PSpec.lendH
 split
 ·rename_i p hp
  cases s with
  | fn pre val =>
   intro args G G' hg hpre G1 ho
   obtain ⟨G2,h2,h3⟩:=ho.anti hg
   exact h args G2 G1 h3 (hpre G2 h2)
  | sca pre post =>
   intro args G G' hg hpre
   refine ⟨fun G1 ho=>?_,fun v ⟨G1,ho,hv⟩=>?_⟩
   ·obtain ⟨G2,h2,h3⟩:=ho.anti hg
    exact (h args G2 G1 h3 (hpre G2 h2)).1
   ·obtain ⟨G2,h2,h3⟩:=ho.anti hg
    exact ⟨G2,h2,(h args G2 G1 h3 (hpre G2 h2)).2 v hv⟩
  | rel=>exact h
  | own=>exact h
  | st=>exact h
  | seq=>exact h
  | cut=>exact h
  | hp pre post=>exact fun args G G' hg ⟨h1,h2⟩=>⟨h args p G G' hg h1,h2⟩
 ·exact h
theorem ev_rok {P:Program} (T:Tab P) {op:IOp} (h:op.isCallv = false):Rok (ev T.get fr H hid op) :=
 ev_all (Z:=Rok) trivial (fun _ _ h=>h) (fun _ _ _ h h'=>⟨h,h'⟩) (fun _=>trivial) ⟨fun _ _ _ _ h=>h,fun _ _ _ _ _ h=>h⟩ (fun _ _ _ h=>h) (fun _ _ _ h=>h) ⟨fun _ _ _ _ h=>h,fun _ _ h=>h⟩ (fun _ _ h=>h) (fun _ _=>trivial) (fun _ _ _ _ _ _=>trivial) (fun _ _ _ _ _ _=>trivial)
  (fun f s os args _ hf=>by
   have:=(T.ok f s hf).1
   show MonoS args _
   refine monoS_lendH ?_ (fun pre post e p v G G' hg hq=>by
    have e2:s = .hp pre post:=by
     cases os with
     | nil=>exact e
     | cons o r=>cases s<;>first | exact e | cases e
    subst e2
    exact this.1 args p v p G G' hg hq)
   rw [monoS_lend]
   cases s with
   | fn=>trivial
   | sca=>trivial
   | rel pre post=>exact this.1 args
   | own t k pre post=>exact this.1 args
   | st pre post=>trivial
   | seq pre post=>trivial
   | cut=>trivial
   | hp=>trivial) (fun _ _ _ e=>by rw [h] at e;cases e) ⟨fun _ _ _=>fun _ _ _ hg ⟨a,c,e,hp⟩=>⟨a,c,e,hp.grow hg⟩,fun _ _ _=>fun _ _ _ hg ⟨a,e,hp⟩=>⟨a,e,hp.grow hg⟩⟩ (fun _ _ _ h=>h) ⟨fun _ _ _ _ _ _ _=>trivial,fun _ _ _ _ _=>trivial⟩ (fun _ _ _ _ _ _=>trivial)
theorem ev_keys {op:IOp}:Keys (fun k=>op.mod = true∧(H k).isSome) hid (ev tab fr H hid op) :=
 ev_all (Z:=Keys (fun k=>op.mod = true∧(H k).isSome) hid) trivial (fun _ _ h=>h) (fun _ _ _ h h'=>⟨h,h'⟩) (fun _=>trivial) ⟨fun _ _ _ _ h=>h,fun _ _ _ _ _ h=>h⟩ (fun _ _ _ h=>h) (fun _ _ _ h=>h) ⟨fun _ _ _ _ h=>h,fun _ _ h=>h⟩ (fun _ _ h=>h) (fun _ _=>trivial)
  (fun h ob ob' sv hm e=>⟨hm,by rw [e];rfl⟩) (fun hs n vs t k h h1 e=>let ⟨hm,ob,e2⟩:=h h1 e;⟨hm,by rw [e2];rfl⟩) (fun _ _ _ _ _ _=>trivial) (fun _ _ _ _=>trivial) ⟨fun _ _ _=>trivial,fun _ _ _=>trivial⟩ (fun _ _ _ h=>h) ⟨fun _ _ _ _ _ hm ⟨ob,e⟩=>⟨hm,by rw [e];rfl⟩,fun _ _ _ hm ⟨ob,e⟩=>⟨hm,by rw [e];rfl⟩⟩ (fun _ _ _ hm _ ⟨ob,e⟩=>⟨hm,by rw [e];rfl⟩)
def monoIn (ms:List FuncId):IOp→Bool
 | .call f _=>memN f ms
 | .bslp ..=>true
 | .bslx ..=>true
 | .mksp ..=>true
 | .s2b ..=>true
 | .cut ..=>true
 | _=>false
def MonoT (tab:FuncId→Option PSpec) (ms:List FuncId):Prop:=∀ f s,memN f ms = true→tab f = some s→MonoP s
theorem ev_mono {op:IOp} {ms:List FuncId} (hm:MonoT tab ms) (h:monoIn ms op = true):MonoR (ev tab fr H hid op):=by
 cases op with
 | call f args =>
  simp only [ev]
  split
  ·split
   ·exact monoP_lendH (monoP_lend (hm f _ h ‹_›))
   ·trivial
  ·trivial
 | bslp t k len zs parts =>
  simp only [ev]
  split
  ·split
   ·cases allOne _ with
    | true=>exact fun _ _ _ _ h=>h
    | false=>trivial
   ·trivial
  ·trivial
 | bslx t k len zs parts =>
  simp only [ev]
  split
  ·split
   ·cases allOne _ with
    | true=>exact fun _ _ _ _ h=>h
    | false=>trivial
   ·trivial
  ·trivial
 | mksp t k bytes zs n =>
  simp only [ev]
  split
  ·exact fun _ _ _ _ h=>h
  ·trivial
 | s2b t x =>
  simp only [ev]
  split
  ·exact fun _ _ _ _ h=>h
  ·trivial
 | cut f s args =>
  simp only [ev]
  split
  ·split
   ·split
    ·split
     ·cases (Nat.beq _ _ && Nat.beq _ _)<;>trivial
     ·trivial
    ·trivial
   ·trivial
  ·trivial
 | _=>cases h
theorem ev_still {op:IOp} (h:op.isCall = false):Still (ev tab fr H hid op) :=
 ev_all (Z:=Still) trivial (fun _ _ h=>h) (fun _ _ _ h h'=>⟨h,h'⟩) (fun _=>trivial) ⟨fun _ _ _ _ h=>h,fun _ _ _ _ _ h=>h⟩ (fun _ _ _ h=>h) (fun _ _ _ h=>h) ⟨fun _ _ _ _ h=>h,fun _ _ h=>h⟩ (fun _ _ h=>h) (fun _ _=>trivial) (fun _ _ _ _ _ _=>trivial) (fun _ _ _ _ _ _=>trivial)
  (fun _ _ _ _ e _=>by rw [h] at e;cases e) (fun _ _ _ e=>by cases op<;>simp_all [IOp.isCall,IOp.isCallv]) ⟨fun _ _ e=>(by rw [h] at e;cases e),fun _ _ e=>(by rw [h] at e;cases e)⟩ (fun _ _ _ h=>h) ⟨fun _ _ _ _ _ _ _=>trivial,fun _ _ _ _ _=>trivial⟩ (fun _ _ _ _ e=>by rw [h] at e;cases e)
end
end Go.Pal
