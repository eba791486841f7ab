/- Proved: the statement TopLevelSaid, as it is given; no further condition. -/
import Derived.Test.YtefnikpoimaiiaaMF
import Derived.Test.YtefnikpoimaiiaaMD
import Derived.Test.YtefnikpoimaiiaaRows
set_option linter.unusedSimpArgs false
set_option linter.unusedVariables false
namespace Go.Proofs.Ytefnikpoimaiiaa
open Go.Pal Go.ChangeShapes Go.RowKit
set_option maxRecDepth 100000
theorem SlR.map {α β:Type} {k:Nat} {R:Hp→List Value→α→Prop} {R':Hp→List Value→β→Prop} {G:Hp} {a:Option Addr} {n c:Nat} {l:List α} (f:α→β) (hf:∀ cs x,R G cs x→R' G cs (f x)) (h:SlR k R G a n c l):SlR k R' G a n c (l.map f) :=
 ⟨by rw [List.length_map,h.len],h.cap,h.some,fun i hi=>by
  obtain ⟨cs,h1,h2,h3⟩:=h.at_ i (by simpa using hi)
  exact ⟨cs,h1,h2,by rw [List.getElem_map];exact hf _ _ h3⟩⟩
theorem udl5:Try.prog.underlying 5 = some (.int .u8):=by kernel_rfl
theorem op3:Opens Try.prog 3 (cdInt .i64):=.int und3
theorem op5:Opens Try.prog 5 (cdInt .u8):=.int udl5
theorem op62:Opens Try.prog 62 (cdSl (cdInt .i64)):=.slice (e:=3) (by kernel_rfl) op3 (by decide)
abbrev cdSn:=cdPair (cdSl (cdInt .i64)) (cdPair (cdInt .i64) cdUnit)
theorem op99:Opens Try.prog 99 cdSn:=.struct (fs:=[(62,0),(3,1)]) (by kernel_rfl) (by kernel_rfl) (OpensF.cons op62 (OpensF.cons op3 OpensF.nil))
theorem op88:Opens Try.prog 88 (cdSl cdSn):=.slice (e:=99) (by kernel_rfl) op99 (by decide)
theorem sli_cd {G:Hp} {a:Option Addr} {n c:Nat} {l:List Int} (h:SlR (cdInt .i64).k (cdInt .i64).R G a n c l):SlR intE.k intE.R G a n c l:=by
 have hi:∀ (cs:List Value) x,(cdInt .i64).R G cs x→intE.R G cs (id x):=fun _ _ h=>h.1
 have:=SlR.map id hi h
 rwa [List.map_id] at this
theorem sn_cd {G:Hp} {cs:List Value} {x} (h:cdSn.R G cs x):SuR G cs ⟨x.1,x.2.1⟩:=by
 obtain ⟨_,_,rfl,⟨a,n,c,rfl,h1,h2⟩,_,_,rfl,⟨rfl,_⟩,rfl⟩:=h
 exact ⟨_,rfl,a,n,c,rfl,sli_cd h1,h2⟩
theorem sns_val {G:Hp} {v:Value} (h:∃ x,VR (cdSl cdSn) false G v x):∃ ws,SsU G v ws:=by
 obtain ⟨x,a,n,c,e,h1,h2⟩:=h
 have e:[v] = [.slice a n c]:=e
 exact ⟨x.map fun w=>⟨w.1,w.2.1⟩,a,n,c,(List.cons.inj e).1,SlR.map _ (fun _ _ h=>sn_cd h) h1,h2⟩
theorem u8_val {G:Hp} {v:Value} (h:∃ x,VR (cdInt .u8) false G v x):∃ n,v = U n∧0≤n∧n≤255:=by
 obtain ⟨x,e,hr⟩:=h
 simp only [inR] at hr
 have e:[v] = [U x]:=e
 exact ⟨x,(List.cons.inj e).1,hr.1,by omega⟩
theorem ownK:ownKnob Try.checked.prog.godebug = none:=by kernel_rfl
theorem laidK:laidOutB Try.checked.prog = true:=by kernel_rfl
theorem boolK:Try.checked.prog.underlying 4 = some .bool:=by kernel_rfl
theorem topLevel_law {H:Type} {enc:TypeId × Value→H} (W:World) (b0:Nat) (args:Array Value) (ds:List (DataW H)) (p:List MemPlace) (hv:∀ (j:Nat) t v,([88,5]:List TypeId)[j]? = some t→args[j]? = some v→Value.okWide Try.checked.prog W .any b0 t v) (h:DataW.TrodAll enc Try.checked.prog W 0 (fun _=>true) true [88,5] args.toList ds p) :
  Calls Try.checked.prog 5 args W fun e W'=>e = .returned (.bool true)∧Below W.heap.size W W':=by
 obtain ⟨v0,_,d0,_,p0,_,ha,rfl,rfl,t0,r0⟩:=trodAll_cons h
 obtain ⟨v1,_,d1,_,p1,_,rfl,rfl,rfl,t1,r1⟩:=trodAll_cons r0
 obtain ⟨rfl,rfl,rfl⟩:=trodAll_nil r1
 obtain rfl:args = #[v0,v1]:=by cases args;simp_all
 obtain ⟨x0,h0⟩:=sns_val (op88.one (by kernel_rfl) (hv 0 88 _ rfl rfl) t0)
 obtain ⟨x1,h1⟩:=u8_val (op5.one (by kernel_rfl) (hv 1 5 _ rfl rfl) t1)
 have:=Sound.hpSca0 (law5 x0 x1) [v0,v1] (hpOf W) W (fun b o e=>e) (⟨rfl,v0,by rw [show v1 = U x1 from h1.1],h0,h1.2⟩)
 exact this.mono fun e W' ⟨v,h1,⟨_,_,h2⟩,h3⟩=>⟨by rw [h1,h2],h3⟩
theorem topLevel_lifted (os:Os) (started:os.Started) (H:Type) (enc:TypeId × Value→H) :
  ReturnsInHanded {} Try.checked os 5 .any (Rows.topLevelSpec.pre6 enc Try.prog Try.f5 Rows.topLevelRow.domain false) (Rows.topLevelSpec.post enc Try.prog Try.f5 false true false false) :=
 law_lifted ownK (by kernel_rfl) Try.func5 laidK (ts:=[88,5]) (by rw [Try.params5]) rfl boolK (by kernel_rfl) rfl
  (fun H ds hd=>match ds,hd with | [d0,d1],_=>rfl) topLevel_law os started
  (ChangeSpec.witness6 (enc:=enc) (C:=Try.checked) false ⟨#[], #[.slice none 0 0, .int .u8 0],[]⟩ 8 (by kernel_rfl) (by kernel_rfl) (by kernel_rfl) (by kernel_rfl))
theorem topLevel_over:Rows.topLevelRow.holds Try.pinned (OpenSpec.ofChange Rows.topLevelSpec) :=
 OpenClaim.holds_of_wide 5 Try.f5 rfl rfl rfl rfl rfl rfl rfl ⟨rfl,rfl,rfl,rfl,rfl⟩ rfl rfl rfl rfl rfl (by kernel_rfl) Try.func5 (by kernel_rfl)
  (of_decide_eq_true (by kernel_rfl)) (by unfold Func.isWrapper;first | (rw [if_pos (by decide +kernel)];kernel_rfl) | (rw [if_neg (by decide +kernel)];exact ⟨rfl,rfl⟩))
  (fun os started H enc _=>topLevel_lifted os started H enc)
theorem topLevel_proved:Rows.TopLevelSaid:=topLevel_over

end Go.Proofs.Ytefnikpoimaiiaa
