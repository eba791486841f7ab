/- The row of takeNames. -/
import Derived.Test.YtcmhpndhloplpaaMK
namespace Go.Proofs.Ytcmhpndhloplpaa
open Go.Pal Go.ChangeShapes Go.RowKit
set_option maxRecDepth 100000

theorem takeNames_law {H : Type} {enc : TypeId × Value → H} (W : World) (b0 : Nat) (args : Array Value) (ds : List (DataW H)) (p : List MemPlace) (hv : ∀ (j : Nat) t v, ([] : List TypeId)[j]? = some t → args[j]? = some v → Value.okWide Try.checked.prog W .any b0 t v) (h : DataW.TrodAll enc Try.checked.prog W 0 (fun _ => true) true [] args.toList ds p) :
    Calls Try.checked.prog 9 args W fun e W' => e = .returned (.bool true) ∧ Below W.heap.size W W' := by
  obtain ⟨_, rfl, rfl⟩ := trodAll_nil h
  obtain rfl : args = #[] := by cases args; simp_all
  have := law9 [] (hpOf W) W (fun b o e => e) (⟨(), rfl⟩)
  exact this.mono fun e W' ⟨v, h1, ⟨_, _, h2⟩, h3⟩ => ⟨by rw [h1, h2], h3⟩
theorem takeNames_lifted (os : Os) (started : os.Started) (H : Type) (enc : TypeId × Value → H) :
    ReturnsInHanded {} Try.checked os 9 .any (Rows.takeNamesSpec.pre6 enc Try.prog Try.f9 Rows.takeNamesRow.domain false) (Rows.takeNamesSpec.post enc Try.prog Try.f9 false true false false) :=
  law_lifted ownK (by kernel_rfl) Try.func9 laidK (ts := []) (by rw [Try.params9]) rfl boolK (by kernel_rfl) rfl
    (fun H ds hd => match ds, hd with | [], _ => rfl) takeNames_law os started
    (ChangeSpec.witness6 (enc := enc) (C := Try.checked) false ⟨#[], #[], []⟩ 8 (by kernel_rfl) (by kernel_rfl) (by kernel_rfl) (by kernel_rfl))
theorem takeNames_over : Rows.takeNamesRow.holds Try.pinned (OpenSpec.ofChange Rows.takeNamesSpec) :=
  OpenClaim.holds_of_wide 9 Try.f9 rfl rfl rfl rfl rfl rfl rfl ⟨rfl, rfl, rfl, rfl, rfl⟩ rfl rfl rfl rfl rfl (by kernel_rfl) Try.func9 (by kernel_rfl)
    (of_decide_eq_true (by kernel_rfl)) (by unfold Func.isWrapper; first | (rw [if_pos (by decide +kernel)]; kernel_rfl) | (rw [if_neg (by decide +kernel)]; exact ⟨rfl, rfl⟩))
    (fun os started H enc _ => takeNames_lifted os started H enc)
theorem takeNames_proved : Rows.TakeNamesSaid := takeNames_over

end Go.Proofs.Ytcmhpndhloplpaa
