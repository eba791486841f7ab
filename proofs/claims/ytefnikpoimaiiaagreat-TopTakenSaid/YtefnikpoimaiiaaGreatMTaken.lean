/- Proved: the statement TopTakenSaid, as it is given; no further condition. -/
import Derived.Test.YtefnikpoimaiiaaGreatML
import Derived.Test.YtefnikpoimaiiaaGreatMR
import Derived.Test.YtefnikpoimaiiaaGreatMT
set_option linter.unusedSimpArgs false
set_option linter.unusedVariables false
namespace Go.Proofs.YtefnikpoimaiiaaGreat
open Go.Pal Go.ChangeShapes Go.RowKit
set_option maxRecDepth 100000
theorem topTaken_law {H:Type} {enc:TypeId × Value→H} (W:World) (b0:Nat) (args:Array Value) (ds:List (DataW H)) (p:List MemPlace) (hv:∀ (j:Nat) t v,([52,55,58,59]:List TypeId)[j]? = some t→args[j]? = some v→Value.okWide Tryz.checked.prog W .any b0 t v) (h:DataW.TrodAll enc Tryz.checked.prog W 0 (fun _=>true) true [52,55,58,59] args.toList ds p) :
  Calls Tryz.checked.prog 4 args W fun e W'=>e = .returned (.bool true)∧Below W.heap.size W W':=by
 obtain ⟨v0,_,d0,_,p0,_,ha,rfl,rfl,t0,r0⟩:=trodAll_cons h
 obtain ⟨v1,_,d1,_,p1,_,rfl,rfl,rfl,t1,r1⟩:=trodAll_cons r0
 obtain ⟨v2,_,d2,_,p2,_,rfl,rfl,rfl,t2,r2⟩:=trodAll_cons r1
 obtain ⟨v3,_,d3,_,p3,_,rfl,rfl,rfl,t3,r3⟩:=trodAll_cons r2
 obtain ⟨rfl,rfl,rfl⟩:=trodAll_nil r3
 obtain rfl:args = #[v0,v1,v2,v3]:=by cases args;simp_all
 obtain ⟨x0,h0⟩:=L.sit_val (L.o24.agg (fs:=[(3,0),(50,1),(3,2),(3,3)]) (by kernel_rfl) (hv 0 52 _ rfl rfl) t0)
 obtain ⟨x1,h1⟩:=L.off_val (L.o45.agg (fs:=[(53,0),(3,1),(3,2)]) (by kernel_rfl) (hv 1 55 _ rfl rfl) t1)
 obtain ⟨x2,h2⟩:=dr_val (o25.agg (fs:=[(56,0),(30,1)]) (by kernel_rfl) (hv 2 58 _ rfl rfl) t2)
 obtain ⟨x3,h3⟩:=sps_val (o26.one (by kernel_rfl) (hv 3 59 _ rfl rfl) t3)
 have:=lawT4 [v0,v1,v2,v3] (hpOf W) W (fun b o e=>e) (⟨(x0,x1,x2,x3),v0,v1,v2,v3,rfl,h0,h1,h2,h3,trivial⟩)
 exact this.mono fun e W' ⟨v,h1,⟨_,_,h2⟩,h3⟩=>⟨by rw [h1,h2],h3⟩
theorem topTaken_lifted (os:Os) (started:os.Started) (H:Type) (enc:TypeId × Value→H) :
  ReturnsInHanded {} Tryz.checked os 4 .any (Rows.topTakenSpec.pre6 enc Tryz.prog Tryz.f4 Rows.topTakenRow.domain false) (Rows.topTakenSpec.post enc Tryz.prog Tryz.f4 false true false false) :=
 law_lifted ownK (by kernel_rfl) Tryz.func4 laidK (ts:=[52,55,58,59]) (by rw [Tryz.params4]) rfl boolK (by kernel_rfl) rfl
  (fun H ds hd=>match ds,hd with | [d0,d1,d2,d3],_=>rfl) topTaken_law os started
  (ChangeSpec.witness6 (enc:=enc) (C:=Tryz.checked) false ⟨#[], #[L.sit0,L.off0,dr0,sl0],[]⟩ 8 (by kernel_rfl) (by kernel_rfl) (by kernel_rfl) (by kernel_rfl))
theorem topTaken_over:Rows.topTakenRow.holds Tryz.pinned (OpenSpec.ofChange Rows.topTakenSpec) :=
 OpenClaim.holds_of_wide 4 Tryz.f4 rfl rfl rfl rfl rfl rfl rfl ⟨rfl,rfl,rfl,rfl,rfl⟩ rfl rfl rfl rfl rfl (by kernel_rfl) Tryz.func4 (by kernel_rfl)
  (of_decide_eq_true (by kernel_rfl)) (by unfold Func.isWrapper;first | (rw [if_pos (by decide +kernel)];kernel_rfl) | (rw [if_neg (by decide +kernel)];exact ⟨rfl,rfl⟩))
  (fun os started H enc _=>topTaken_lifted os started H enc)
theorem topTaken_proved:Rows.TopTakenSaid:=topTaken_over

end Go.Proofs.YtefnikpoimaiiaaGreat
