/- Proved: the statement TopSpeaksSaid, as it is given; no further condition. -/
import Derived.Test.YtefnikpoimaiiaaMF
import Derived.Test.YtefnikpoimaiiaaMD
import Derived.Test.YtefnikpoimaiiaaRows
set_option linter.unusedSimpArgs false
set_option linter.unusedVariables false
namespace Go.Proofs.Ytefnikpoimaiiaa
open Go.Pal Go.ChangeShapes Go.RowKit
set_option maxRecDepth 100000
abbrev cdMo:=cdPair (cdInt .u16) (cdPair (cdInt .u16) cdUnit)
theorem o116:Opens Try.prog 116 cdMo:=.struct (fs:=[(37,0),(37,1)]) (by kernel_rfl) (by kernel_rfl) (OpensF.cons L.o38 (OpensF.cons L.o38 OpensF.nil))
theorem o25:Opens Try.prog 25 (cdSl cdMo):=.slice (e:=116) (by kernel_rfl) o116 (by decide)
abbrev cdSc:=cdPair (cdInt .i64) (cdPair (cdInt .i64) (cdPair (cdInt .i64) (cdPair (cdInt .i64) (cdPair (cdSl cdMo) cdUnit))))
theorem o27:Opens Try.prog 27 cdSc:=.struct (fs:=[(3,0),(3,1),(3,2),(3,3),(25,4)]) (by kernel_rfl) (by kernel_rfl) (OpensF.cons L.o3 (OpensF.cons L.o3 (OpensF.cons L.o3 (OpensF.cons L.o3 (OpensF.cons o25 OpensF.nil)))))
theorem mo_cd {G:Hp} {cs:List Value} {x} (h:cdMo.R G cs x):moE.R G cs ⟨x.1,x.2.1⟩∧MoOk ⟨x.1,x.2.1⟩:=by
 obtain ⟨_,_,rfl,⟨rfl,h1⟩,_,_,rfl,⟨rfl,h2⟩,rfl⟩:=h
 simp only [inR] at h1 h2
 exact ⟨rfl,⟨⟨h1.1,by show x.1 < 65536;omega⟩,⟨h2.1,by show x.2.1 < 65536;omega⟩⟩⟩
theorem sc_val {G:Hp} {v:Value} (h:∃ x,VR cdSc true G v x):∃ s,ScU G v s∧MsOk s:=by
 obtain ⟨x,cs,rfl,_,_,e,⟨rfl,_⟩,_,_,rfl,⟨rfl,_⟩,_,_,rfl,⟨rfl,_⟩,_,_,rfl,⟨rfl,_⟩,_,_,rfl,⟨a,n,c,rfl,hl,_⟩,rfl⟩:=h
 refine ⟨⟨x.1,x.2.1,x.2.2.1,x.2.2.2.1,x.2.2.2.2.1.map fun p=>⟨p.1,p.2.1⟩⟩,⟨a,n,c, ?_,L.SlR.map _ (fun _ _ h=>(mo_cd h).1) hl⟩,fun m hm=>?_⟩
 ·simp at e
  exact congrArg Value.agg (Array.toList_inj.1 e)
 ·obtain ⟨p,hp,rfl⟩:=List.mem_map.1 hm
  obtain ⟨i,hi,rfl⟩:=List.getElem_of_mem hp
  obtain ⟨cs,_,_,h3⟩:=hl.at_ i hi
  exact (mo_cd h3).2
theorem topSpeaks_law {H:Type} {enc:TypeId × Value→H} (W:World) (b0:Nat) (args:Array Value) (ds:List (DataW H)) (p:List MemPlace) (hv:∀ (j:Nat) t v,([24,27]:List TypeId)[j]? = some t→args[j]? = some v→Value.okWide Try.checked.prog W .any b0 t v) (h:DataW.TrodAll enc Try.checked.prog W 0 (fun _=>true) true [24,27] args.toList ds p) :
  Calls Try.checked.prog 3 args W fun e W'=>e = .returned (.bool true)∧Below W.heap.size W W':=by
 obtain ⟨v0,_,d0,_,p0,_,ha,rfl,rfl,t0,r0⟩:=trodAll_cons h
 obtain ⟨v1,_,d1,_,p1,_,rfl,rfl,rfl,t1,r1⟩:=trodAll_cons r0
 obtain ⟨rfl,rfl,rfl⟩:=trodAll_nil r1
 obtain rfl:args = #[v0,v1]:=by cases args;simp_all
 obtain ⟨x0,h0⟩:=L.sit_val (L.o24.agg (fs:=[(3,0),(22,1),(3,2),(3,3)]) (by kernel_rfl) (hv 0 24 _ rfl rfl) t0)
 obtain ⟨x1,h1,hms⟩:=sc_val (o27.agg (fs:=[(3,0),(3,1),(3,2),(3,3),(25,4)]) (by kernel_rfl) (hv 1 27 _ rfl rfl) t1)
 have:=Sound.hpSca0 (law3 x0 x1 hms) [v0,v1] (hpOf W) W (fun b o e=>e) (⟨rfl,v0,v1,rfl,h0,h1⟩)
 exact this.mono fun e W' ⟨v,h1,⟨_,_,h2⟩,h3⟩=>⟨by rw [h1,h2],h3⟩
theorem topSpeaks_lifted (os:Os) (started:os.Started) (H:Type) (enc:TypeId × Value→H) :
  ReturnsInHanded {} Try.checked os 3 .any (Rows.topSpeaksSpec.pre6 enc Try.prog Try.f3 Rows.topSpeaksRow.domain false) (Rows.topSpeaksSpec.post enc Try.prog Try.f3 false true false false) :=
 law_lifted L.ownK (by kernel_rfl) Try.func3 L.laidK (ts:=[24,27]) (by rw [Try.params3]) rfl L.boolK (by kernel_rfl) rfl
  (fun H ds hd=>match ds,hd with | [d0,d1],_=>rfl) topSpeaks_law os started
  (ChangeSpec.witness6 (enc:=enc) (C:=Try.checked) false ⟨#[], #[.agg #[.int .i64 0, .slice none 0 0, .int .i64 0, .int .i64 0], .agg #[.int .i64 0, .int .i64 0, .int .i64 0, .int .i64 0, .slice none 0 0]],[]⟩ 8 (by kernel_rfl) (by kernel_rfl) (by kernel_rfl) (by kernel_rfl))
theorem topSpeaks_over:Rows.topSpeaksRow.holds Try.pinned (OpenSpec.ofChange Rows.topSpeaksSpec) :=
 OpenClaim.holds_of_wide 3 Try.f3 rfl rfl rfl rfl rfl rfl rfl ⟨rfl,rfl,rfl,rfl,rfl⟩ rfl rfl rfl rfl rfl (by kernel_rfl) Try.func3 (by kernel_rfl)
  (of_decide_eq_true (by kernel_rfl)) (by unfold Func.isWrapper;first | (rw [if_pos (by decide +kernel)];kernel_rfl) | (rw [if_neg (by decide +kernel)];exact ⟨rfl,rfl⟩))
  (fun os started H enc _=>topSpeaks_lifted os started H enc)
theorem topSpeaks_proved:Rows.TopSpeaksSaid:=topSpeaks_over

end Go.Proofs.Ytefnikpoimaiiaa
