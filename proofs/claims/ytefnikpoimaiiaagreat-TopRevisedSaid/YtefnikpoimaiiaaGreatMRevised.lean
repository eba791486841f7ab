/- Proved: the statement TopRevisedSaid, as it is given; no further condition. -/
import Derived.Test.YtefnikpoimaiiaaGreatMH
import Derived.Test.YtefnikpoimaiiaaGreatMI
import Derived.Test.YtefnikpoimaiiaaGreatME
import Derived.Test.YtefnikpoimaiiaaGreatRows
set_option linter.unusedSimpArgs false
set_option linter.unusedVariables false
namespace Go.Proofs.YtefnikpoimaiiaaGreat
open Go.Pal Go.ChangeShapes Go.RowKit
set_option maxRecDepth 100000
theorem SlR.map {α β:Type} {k:Nat} {R:Hp→List Value→α→Prop} {R':Hp→List Value→β→Prop} {G:Hp} {a:Option Addr} {n c:Nat} {l:List α} (f:α→β) (hf:∀ cs x,R G cs x→R' G cs (f x)) (h:SlR k R G a n c l):SlR k R' G a n c (l.map f) :=
 ⟨by rw [List.length_map,h.len],h.cap,h.some,fun i hi=>by
  obtain ⟨cs,h1,h2,h3⟩:=h.at_ i (by simpa using hi)
  exact ⟨cs,h1,h2,by rw [List.getElem_map];exact hf _ _ h3⟩⟩
theorem SlR.choose {α β:Type} {k:Nat} {R:Hp→List Value→α→Prop} {R':Hp→List Value→β→Prop} {G:Hp} {a:Option Addr} {n c:Nat} {l:List α} (hf:∀ cs x,R G cs x→∃ y,R' G cs y) (h:SlR k R G a n c l):∃ l':List β,SlR k R' G a n c l':=by
 have H:∀ i:Fin l.length, ∃ y:β, ∃ cs:List Value,cs.length = k∧CellsAt G (ab a) (ao a + i.1 * k) cs∧R' G cs y:=fun i=>by
  obtain ⟨cs,h1,h2,h3⟩:=h.at_ i.1 i.2
  obtain ⟨y,hy⟩:=hf cs _ h3
  exact ⟨y,cs,h1,h2,hy⟩
 refine ⟨List.ofFn fun i=>(H i).choose,by rw [List.length_ofFn,h.len],h.cap,h.some,fun i hi=>?_⟩
 rw [List.length_ofFn] at hi
 obtain ⟨cs,h1,h2,h3⟩:=(H ⟨i,hi⟩).choose_spec
 exact ⟨cs,h1,h2,by rw [List.getElem_ofFn];exact h3⟩
theorem ud3:Tryz.prog.underlying 3 = some (.int .i64):=by kernel_rfl
theorem ud9:Tryz.prog.underlying 9 = some .string:=by kernel_rfl
theorem ud26:Tryz.prog.underlying 26 = some (.int .u16):=by kernel_rfl
theorem op3:Opens Tryz.prog 3 (cdInt .i64):=.int ud3
theorem op9:Opens Tryz.prog 9 cdStr:=.str ud9
theorem op26:Opens Tryz.prog 26 (cdInt .u16):=.int ud26
theorem op22:Opens Tryz.prog 22 (cdSl cdStr):=.slice (e:=9) (by kernel_rfl) op9 (by decide)
abbrev cdPp:=cdPair (cdInt .i64) (cdPair (cdInt .i64) (cdPair (cdInt .i64) (cdPair (cdInt .i64) (cdPair (cdSl cdStr) cdUnit))))
theorem op42:Opens Tryz.prog 42 cdPp:=.struct (fs:=[(3,0),(3,1),(3,2),(3,3),(22,4)]) (by kernel_rfl) (by kernel_rfl) (OpensF.cons op3 (OpensF.cons op3 (OpensF.cons op3 (OpensF.cons op3 (OpensF.cons op22 OpensF.nil)))))
theorem op23:Opens Tryz.prog 23 (cdSl cdPp):=.slice (e:=42) (by kernel_rfl) op42 (by decide)
abbrev cdMo:=cdPair (cdSl cdStr) (cdPair (cdSl cdPp) cdUnit)
theorem op25:Opens Tryz.prog 25 cdMo:=.struct (fs:=[(22,0),(23,1)]) (by kernel_rfl) (by kernel_rfl) (OpensF.cons op22 (OpensF.cons op23 OpensF.nil))
theorem sls_cd {G:Hp} {a:Option Addr} {n c:Nat} {l:List ByteArray} (h:SlR cdStr.k cdStr.R G a n c l):SlR strE.k strE.R G a n c l:=by
 have hi:∀ (cs:List Value) x,cdStr.R G cs x→strE.R G cs (id x):=fun _ _ h=>h.1
 have:=SlR.map id hi h
 rwa [List.map_id] at this
def ppR (G:Hp) (cs:List Value) (p:Pp):Prop:=cs = pcL p.c∧SlU strE G p.c.sl p.ws
theorem pp_cd {G:Hp} {cs:List Value} {x} (h:cdPp.R G cs x):∃ p,ppR G cs p:=by
 obtain ⟨_,_,rfl,⟨rfl,_⟩,_,_,rfl,⟨rfl,_⟩,_,_,rfl,⟨rfl,_⟩,_,_,rfl,⟨rfl,_⟩,_,_,rfl,⟨a,n,c,rfl,h1,h2⟩,rfl⟩:=h
 exact ⟨⟨⟨x.1,x.2.1,x.2.2.1,x.2.2.2.1,a,n,c⟩,x.2.2.2.2.1⟩,rfl,a,n,c,rfl,sls_cd h1,h2⟩
theorem mo_val {G:Hp} {v:Value} (h:∃ x,VR cdMo true G v x):∃ m,MoU G v m:=by
 obtain ⟨x,cs,rfl,_,_,e,⟨a,n,c,rfl,h1,h2⟩,_,_,rfl,⟨a',n',c',rfl,h3,h4⟩,rfl⟩:=h
 obtain ⟨ps,hps⟩:=SlR.choose (R':=ppR) (fun _ _ h=>pp_cd h) h3
 refine ⟨⟨x.1,ps⟩, .slice a n c,a',n',c', ?_,⟨a,n,c,rfl,sls_cd h1,h2⟩,SlR.map (fun p:Pp=>p.c) (fun _ _ h=>h.1) hps,h4,fun p hp=>?_⟩
 ·simp at e
  exact congrArg Value.agg (Array.toList_inj.1 e)
 ·obtain ⟨i,hi,rfl⟩:=List.getElem_of_mem hp
  obtain ⟨cs,_,_,_,h⟩:=hps.at_ i hi
  exact h
theorem u16_val {G:Hp} {v:Value} (h:∃ x,VR (cdInt .u16) false G v x):∃ n,v = U16 n∧0≤n∧n < 65536:=by
 obtain ⟨x,e,hr⟩:=h
 simp only [inR] at hr
 have e:[v] = [U16 x]:=e
 exact ⟨x,(List.cons.inj e).1,hr.1,by omega⟩
theorem ownK:ownKnob Tryz.checked.prog.godebug = none:=by kernel_rfl
theorem laidK:laidOutB Tryz.checked.prog = true:=by kernel_rfl
theorem boolK:Tryz.checked.prog.underlying 4 = some .bool:=by kernel_rfl
theorem topRevised_law {H:Type} {enc:TypeId × Value→H} (W:World) (b0:Nat) (args:Array Value) (ds:List (DataW H)) (p:List MemPlace) (hv:∀ (j:Nat) t v,([25,26]:List TypeId)[j]? = some t→args[j]? = some v→Value.okWide Tryz.checked.prog W .any b0 t v) (h:DataW.TrodAll enc Tryz.checked.prog W 0 (fun _=>true) true [25,26] args.toList ds p) :
  Calls Tryz.checked.prog 3 args W fun e W'=>e = .returned (.bool true)∧Below W.heap.size W W':=by
 obtain ⟨v0,_,d0,_,p0,_,ha,rfl,rfl,t0,r0⟩:=trodAll_cons h
 obtain ⟨v1,_,d1,_,p1,_,rfl,rfl,rfl,t1,r1⟩:=trodAll_cons r0
 obtain ⟨rfl,rfl,rfl⟩:=trodAll_nil r1
 obtain rfl:args = #[v0,v1]:=by cases args;simp_all
 obtain ⟨x0,h0⟩:=mo_val (op25.agg (fs:=[(22,0),(23,1)]) (by kernel_rfl) (hv 0 25 _ rfl rfl) t0)
 obtain ⟨x1,h1⟩:=u16_val (op26.one (by kernel_rfl) (hv 1 26 _ rfl rfl) t1)
 have:=law3 told14 binds7 [v0,v1] (hpOf W) W (fun b o e=>e) (⟨(x0,x1),v0,v1,rfl,h0,h1.1,h1.2⟩)
 exact this.mono fun e W' ⟨v,h1,⟨_,_,h2⟩,h3⟩=>⟨by rw [h1,h2],h3⟩
theorem topRevised_lifted (os:Os) (started:os.Started) (H:Type) (enc:TypeId × Value→H) :
  ReturnsInHanded {} Tryz.checked os 3 .any (Rows.topRevisedSpec.pre6 enc Tryz.prog Tryz.f3 Rows.topRevisedRow.domain false) (Rows.topRevisedSpec.post enc Tryz.prog Tryz.f3 false true false false) :=
 law_lifted ownK (by kernel_rfl) Tryz.func3 laidK (ts:=[25,26]) (by rw [Tryz.params3]) rfl boolK (by kernel_rfl) rfl
  (fun H ds hd=>match ds,hd with | [d0,d1],_=>rfl) topRevised_law os started
  (ChangeSpec.witness6 (enc:=enc) (C:=Tryz.checked) false ⟨#[], #[.agg #[.slice none 0 0, .slice none 0 0], .int .u16 0],[]⟩ 8 (by kernel_rfl) (by kernel_rfl) (by kernel_rfl) (by kernel_rfl))
theorem topRevised_over:Rows.topRevisedRow.holds Tryz.pinned (OpenSpec.ofChange Rows.topRevisedSpec) :=
 OpenClaim.holds_of_wide 3 Tryz.f3 rfl rfl rfl rfl rfl rfl rfl ⟨rfl,rfl,rfl,rfl,rfl⟩ rfl rfl rfl rfl rfl (by kernel_rfl) Tryz.func3 (by kernel_rfl)
  (of_decide_eq_true (by kernel_rfl)) (by unfold Func.isWrapper;first | (rw [if_pos (by decide +kernel)];kernel_rfl) | (rw [if_neg (by decide +kernel)];exact ⟨rfl,rfl⟩))
  (fun os started H enc _=>topRevised_lifted os started H enc)
theorem topRevised_proved:Rows.TopRevisedSaid:=topRevised_over

end Go.Proofs.YtefnikpoimaiiaaGreat
