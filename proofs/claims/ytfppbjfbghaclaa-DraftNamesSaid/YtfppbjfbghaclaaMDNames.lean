/- Proved: the statement DraftNamesSaid, as it is given; no further condition. -/
import Derived.Test.YtfppbjfbghaclaaML
import Derived.Test.YtfppbjfbghaclaaMO
set_option linter.unusedSimpArgs false
set_option linter.unusedVariables false
namespace Go.Proofs.Ytfppbjfbghaclaa
open Go.Pal Go.ChangeShapes Go.RowKit
set_option maxRecDepth 100000

theorem draftNames_law {H:Type} {enc:TypeId × Value→H} (W:World) (b0:Nat) (args:Array Value) (ds:List (DataW H)) (p:List MemPlace) (hv:∀ (j:Nat) t v,([]:List TypeId)[j]? = some t→args[j]? = some v→Value.okWide Try.checked.prog W .any b0 t v) (h:DataW.TrodAll enc Try.checked.prog W 0 (fun _=>true) true [] args.toList ds p) :
  Calls Try.checked.prog 3 args W fun e W'=>e = .returned (.bool true)∧Below W.heap.size W W':=by
 obtain ⟨_,rfl,rfl⟩:=trodAll_nil h
 obtain rfl:args = #[]:=by cases args;simp_all
 have:=law3s [] (hpOf W) W (fun b o e=>e) (⟨(),rfl⟩)
 exact this.mono fun e W' ⟨v,h1,⟨_,_,h2⟩,h3⟩=>⟨by rw [h1,h2],h3⟩
theorem draftNames_lifted (os:Os) (started:os.Started) (H:Type) (enc:TypeId × Value→H) :
  ReturnsInHanded {} Try.checked os 3 .any (Rows.draftNamesSpec.pre6 enc Try.prog Try.f3 Rows.draftNamesRow.domain false) (Rows.draftNamesSpec.post enc Try.prog Try.f3 false true false false) :=
 law_lifted ownK (by kernel_rfl) Try.func3 laidK (ts:=[]) (by rw [Try.params3]) rfl boolK (by kernel_rfl) rfl
  (fun H ds hd=>match ds,hd with | [],_=>rfl) draftNames_law os started
  (ChangeSpec.witness6 (enc:=enc) (C:=Try.checked) false ⟨#[], #[],[]⟩ 8 (by kernel_rfl) (by kernel_rfl) (by kernel_rfl) (by kernel_rfl))
theorem draftNames_over:Rows.draftNamesRow.holds Try.pinned (OpenSpec.ofChange Rows.draftNamesSpec) :=
 OpenClaim.holds_of_wide 3 Try.f3 rfl rfl rfl rfl rfl rfl rfl ⟨rfl,rfl,rfl,rfl,rfl⟩ rfl rfl rfl rfl rfl (by kernel_rfl) Try.func3 (by kernel_rfl)
  (of_decide_eq_true (by kernel_rfl)) (by unfold Func.isWrapper;first | (rw [if_pos (by decide +kernel)];kernel_rfl) | (rw [if_neg (by decide +kernel)];exact ⟨rfl,rfl⟩))
  (fun os started H enc _=>draftNames_lifted os started H enc)
theorem draftNames_proved:Rows.DraftNamesSaid:=draftNames_over

end Go.Proofs.Ytfppbjfbghaclaa
