/- Proved: the statement TallyNamesSaid, as it is given; no further condition. -/
import Derived.Test.YtgpfejgohclheaaMK
set_option linter.unusedSimpArgs false
set_option linter.unusedVariables false
namespace Go.Proofs.Ytgpfejgohclheaa
open Go.Pal Go.ChangeShapes Go.RowKit
set_option maxRecDepth 100000

theorem tallyNames_law {H:Type} {enc:TypeId × Value→H} (W:World) (b0:Nat) (args:Array Value) (ds:List (DataW H)) (p:List MemPlace) (hv:∀ (j:Nat) t v,([]:List TypeId)[j]? = some t→args[j]? = some v→Value.okWide Try.checked.prog W .any b0 t v) (h:DataW.TrodAll enc Try.checked.prog W 0 (fun _=>true) true [] args.toList ds p) :
  Calls Try.checked.prog 8 args W fun e W'=>e = .returned (.bool true)∧Below W.heap.size W W':=by
 obtain ⟨_,rfl,rfl⟩:=trodAll_nil h
 obtain rfl:args = #[]:=by cases args;simp_all
 have:=law8 [] (hpOf W) W (fun b o e=>e) (⟨(),rfl⟩)
 exact this.mono fun e W' ⟨v,h1,⟨_,_,h2⟩,h3⟩=>⟨by rw [h1,h2],h3⟩
theorem tallyNames_lifted (os:Os) (started:os.Started) (H:Type) (enc:TypeId × Value→H) :
  ReturnsInHanded {} Try.checked os 8 .any (Rows.tallyNamesSpec.pre6 enc Try.prog Try.f8 Rows.tallyNamesRow.domain false) (Rows.tallyNamesSpec.post enc Try.prog Try.f8 false true false false) :=
 law_lifted ownK (by kernel_rfl) Try.func8 laidK (ts:=[]) (by rw [Try.params8]) rfl boolK (by kernel_rfl) rfl
  (fun H ds hd=>match ds,hd with | [],_=>rfl) tallyNames_law os started
  (ChangeSpec.witness6 (enc:=enc) (C:=Try.checked) false ⟨#[], #[],[]⟩ 8 (by kernel_rfl) (by kernel_rfl) (by kernel_rfl) (by kernel_rfl))
theorem tallyNames_over:Rows.tallyNamesRow.holds Try.pinned (OpenSpec.ofChange Rows.tallyNamesSpec) :=
 OpenClaim.holds_of_wide 8 Try.f8 rfl rfl rfl rfl rfl rfl rfl ⟨rfl,rfl,rfl,rfl,rfl⟩ rfl rfl rfl rfl rfl (by kernel_rfl) Try.func8 (by kernel_rfl)
  (of_decide_eq_true (by kernel_rfl)) (by unfold Func.isWrapper;first | (rw [if_pos (by decide +kernel)];kernel_rfl) | (rw [if_neg (by decide +kernel)];exact ⟨rfl,rfl⟩))
  (fun os started H enc _=>tallyNames_lifted os started H enc)
theorem tallyNames_proved:Rows.TallyNamesSaid:=tallyNames_over

end Go.Proofs.Ytgpfejgohclheaa
