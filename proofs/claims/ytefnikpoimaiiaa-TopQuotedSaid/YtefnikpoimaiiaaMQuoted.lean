/- Proved: the statement TopQuotedSaid, as it is given; no further condition. -/
import Derived.Test.YtefnikpoimaiiaaML
import Derived.Test.YtefnikpoimaiiaaMO
set_option linter.unusedSimpArgs false
set_option linter.unusedVariables false
namespace Go.Proofs.Ytefnikpoimaiiaa
open Go.Pal Go.ChangeShapes Go.RowKit
set_option maxRecDepth 100000
theorem u8_val {G:Hp} {v:Value} (h:∃ x,VR (cdInt .u8) false G v x):∃ x,u8Rd.R G v x∧0≤x∧x≤255:=by
 obtain ⟨x,h1,h2⟩:=h
 exact ⟨x,(List.cons.inj h1).1,h2⟩
theorem topQuoted_law {H:Type} {enc:TypeId × Value→H} (W:World) (b0:Nat) (args:Array Value) (ds:List (DataW H)) (p:List MemPlace) (hv:∀ (j:Nat) t v,([64,65,5]:List TypeId)[j]? = some t→args[j]? = some v→Value.okWide Try.checked.prog W .any b0 t v) (h:DataW.TrodAll enc Try.checked.prog W 0 (fun _=>true) true [64,65,5] args.toList ds p) :
  Calls Try.checked.prog 4 args W fun e W'=>e = .returned (.bool true)∧Below W.heap.size W W':=by
 obtain ⟨v0,_,d0,_,p0,_,ha,rfl,rfl,t0,r0⟩:=trodAll_cons h
 obtain ⟨v1,_,d1,_,p1,_,rfl,rfl,rfl,t1,r1⟩:=trodAll_cons r0
 obtain ⟨v2,_,d2,_,p2,_,rfl,rfl,rfl,t2,r2⟩:=trodAll_cons r1
 obtain ⟨rfl,rfl,rfl⟩:=trodAll_nil r2
 obtain rfl:args = #[v0,v1,v2]:=by cases args;simp_all
 obtain ⟨x0,h0⟩:=dr_val (o25.agg (fs:=[(61,0),(62,1)]) (by kernel_rfl) (hv 0 64 _ rfl rfl) t0)
 obtain ⟨x1,h1⟩:=sps_val (o26.one (by kernel_rfl) (hv 1 65 _ rfl rfl) t1)
 obtain ⟨x2,h2⟩:=u8_val (o5.one (by kernel_rfl) (hv 2 5 _ rfl rfl) t2)
 have:=law4 quotes19 [v0,v1,v2] (hpOf W) W (fun b o e=>e) (⟨(x0,x1,x2),v0,v1,v2,rfl,h0,h1,h2.1,h2.2⟩)
 exact this.mono fun e W' ⟨v,h1,⟨_,_,h2⟩,h3⟩=>⟨by rw [h1,h2],h3⟩
theorem topQuoted_lifted (os:Os) (started:os.Started) (H:Type) (enc:TypeId × Value→H) :
  ReturnsInHanded {} Try.checked os 4 .any (Rows.topQuotedSpec.pre6 enc Try.prog Try.f4 Rows.topQuotedRow.domain false) (Rows.topQuotedSpec.post enc Try.prog Try.f4 false true false false) :=
 law_lifted ownK (by kernel_rfl) Try.func4 laidK (ts:=[64,65,5]) (by rw [Try.params4]) rfl boolK (by kernel_rfl) rfl
  (fun H ds hd=>match ds,hd with | [d0,d1,d2],_=>rfl) topQuoted_law os started
  (ChangeSpec.witness6 (enc:=enc) (C:=Try.checked) false ⟨#[], #[dr0,sl0, .int .u8 0],[]⟩ 8 (by kernel_rfl) (by kernel_rfl) (by kernel_rfl) (by kernel_rfl))
theorem topQuoted_over:Rows.topQuotedRow.holds Try.pinned (OpenSpec.ofChange Rows.topQuotedSpec) :=
 OpenClaim.holds_of_wide 4 Try.f4 rfl rfl rfl rfl rfl rfl rfl ⟨rfl,rfl,rfl,rfl,rfl⟩ rfl rfl rfl rfl rfl (by kernel_rfl) Try.func4 (by kernel_rfl)
  (of_decide_eq_true (by kernel_rfl)) (by unfold Func.isWrapper;first | (rw [if_pos (by decide +kernel)];kernel_rfl) | (rw [if_neg (by decide +kernel)];exact ⟨rfl,rfl⟩))
  (fun os started H enc _=>topQuoted_lifted os started H enc)
theorem topQuoted_proved:Rows.TopQuotedSaid:=topQuoted_over

end Go.Proofs.Ytefnikpoimaiiaa
