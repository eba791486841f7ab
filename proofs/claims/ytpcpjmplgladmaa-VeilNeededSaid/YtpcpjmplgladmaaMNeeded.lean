/- Proved: the statement VeilNeededSaid, as it is given; no further condition. -/
import Derived.Test.YtpcpjmplgladmaaMG
import Derived.Test.YtpcpjmplgladmaaMH
set_option linter.unusedSimpArgs false
set_option linter.unusedVariables false
namespace Go.Proofs.Ytpcpjmplgladmaa
open Go.Pal Go.ChangeShapes Go.RowKit
set_option maxRecDepth 100000

theorem veilNeeded_law {H:Type} {enc:TypeId × Value→H} (W:World) (b0:Nat) (args:Array Value) (ds:List (DataW H)) (p:List MemPlace) (hv:∀ (j:Nat) t v,([25,28,5]:List TypeId)[j]? = some t→args[j]? = some v→Value.okWide Try.checked.prog W .any b0 t v) (h:DataW.TrodAll enc Try.checked.prog W 0 (fun _=>true) true [25,28,5] args.toList ds p) :
  Calls Try.checked.prog 12 args W fun e W'=>e = .returned (.bool true)∧Below W.heap.size W W':=by
 obtain ⟨v0,_,d0,_,p0,_,ha,rfl,rfl,t0,r0⟩:=trodAll_cons h
 obtain ⟨v1,_,d1,_,p1,_,rfl,rfl,rfl,t1,r1⟩:=trodAll_cons r0
 obtain ⟨v2,_,d2,_,p2,_,rfl,rfl,rfl,t2,r2⟩:=trodAll_cons r1
 obtain ⟨rfl,rfl,rfl⟩:=trodAll_nil r2
 obtain rfl:args = #[v0,v1,v2]:=by cases args;simp_all
 obtain ⟨x0,h0⟩:=rp_val (o25.agg (fs:=[(22,0),(23,1),(3,2)]) (by kernel_rfl) (hv 0 25 _ rfl rfl) t0)
 obtain ⟨x1,h1⟩:=rx_val (o28.agg (fs:=[(3,0),(26,1)]) (by kernel_rfl) (hv 1 28 _ rfl rfl) t1)
 obtain ⟨x2,h2⟩:=u8_val (o5.one (by kernel_rfl) (hv 2 5 _ rfl rfl) t2)
 have:=Sound.hpSca0 (law12 x0 x1 x2 _ rfl) [v0,v1,v2] (hpOf W) W (fun b o e=>e) (⟨rfl,v0,v1,by rw [show v2 = U x2 from h2.1],h0,h1,h2.2⟩)
 exact this.mono fun e W' ⟨v,h1,⟨_,_,h2⟩,h3⟩=>⟨by rw [h1,h2],h3⟩
theorem veilNeeded_lifted (os:Os) (started:os.Started) (H:Type) (enc:TypeId × Value→H) :
  ReturnsInHanded {} Try.checked os 12 .any (Rows.veilNeededSpec.pre6 enc Try.prog Try.f12 Rows.veilNeededRow.domain false) (Rows.veilNeededSpec.post enc Try.prog Try.f12 false true false false) :=
 law_lifted ownK (by kernel_rfl) Try.func12 laidK (ts:=[25,28,5]) (by rw [Try.params12]) rfl boolK (by kernel_rfl) rfl
  (fun H ds hd=>match ds,hd with | [d0,d1,d2],_=>rfl) veilNeeded_law os started
  (ChangeSpec.witness6 (enc:=enc) (C:=Try.checked) false ⟨#[], #[rp0,rx0, .int .u8 0],[]⟩ 8 (by kernel_rfl) (by kernel_rfl) (by kernel_rfl) (by kernel_rfl))
theorem veilNeeded_over:Rows.veilNeededRow.holds Try.pinned (OpenSpec.ofChange Rows.veilNeededSpec) :=
 OpenClaim.holds_of_wide 12 Try.f12 rfl rfl rfl rfl rfl rfl rfl ⟨rfl,rfl,rfl,rfl,rfl⟩ rfl rfl rfl rfl rfl (by kernel_rfl) Try.func12 (by kernel_rfl)
  (of_decide_eq_true (by kernel_rfl)) (by unfold Func.isWrapper;first | (rw [if_pos (by decide +kernel)];kernel_rfl) | (rw [if_neg (by decide +kernel)];exact ⟨rfl,rfl⟩))
  (fun os started H enc _=>veilNeeded_lifted os started H enc)
theorem veilNeeded_proved:Rows.VeilNeededSaid:=veilNeeded_over

end Go.Proofs.Ytpcpjmplgladmaa
