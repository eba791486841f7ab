/- The row of tallyAllows. -/
import Derived.Test.YtgpfejgohclheaaMK
namespace Go.Proofs.Ytgpfejgohclheaa
open Go.Pal Go.ChangeShapes Go.RowKit
set_option maxRecDepth 100000

theorem tallyAllows_law {H : Type} {enc : TypeId × Value → H} (W : World) (b0 : Nat) (args : Array Value) (ds : List (DataW H)) (p : List MemPlace) (hv : ∀ (j : Nat) t v, ([27, 5] : List TypeId)[j]? = some t → args[j]? = some v → Value.okWide Try.checked.prog W .any b0 t v) (h : DataW.TrodAll enc Try.checked.prog W 0 (fun _ => true) true [27, 5] args.toList ds p) :
    Calls Try.checked.prog 7 args W fun e W' => e = .returned (.bool true) ∧ Below W.heap.size W W' := by
  obtain ⟨v0, _, d0, _, p0, _, ha, rfl, rfl, t0, r0⟩ := trodAll_cons h
  obtain ⟨v1, _, d1, _, p1, _, rfl, rfl, rfl, t1, r1⟩ := trodAll_cons r0
  obtain ⟨rfl, rfl, rfl⟩ := trodAll_nil r1
  obtain rfl : args = #[v0, v1] := by cases args; simp_all
  obtain ⟨x0, h0⟩ := dv_val (o27.agg (fs := [(3, 0), (23, 1), (23, 3), (24, 5), (25, 6), (5, 7), (3, 8), (3, 9), (5, 10)]) (by kernel_rfl) (hv 0 27 _ rfl rfl) t0)
  obtain ⟨x1, h1⟩ := u8_val (o5.one (by kernel_rfl) (hv 1 5 _ rfl rfl) t1)
  have := law7 [v0, v1] (hpOf W) W (fun b o e => e) (⟨(x0, x1), v0, v1, rfl, h0.1, h1.1, h0.2, h1.2⟩)
  exact this.mono fun e W' ⟨v, h1, ⟨_, _, h2⟩, h3⟩ => ⟨by rw [h1, h2], h3⟩
theorem tallyAllows_lifted (os : Os) (started : os.Started) (H : Type) (enc : TypeId × Value → H) :
    ReturnsInHanded {} Try.checked os 7 .any (Rows.tallyAllowsSpec.pre6 enc Try.prog Try.f7 Rows.tallyAllowsRow.domain false) (Rows.tallyAllowsSpec.post enc Try.prog Try.f7 false true false false) :=
  law_lifted ownK (by kernel_rfl) Try.func7 laidK (ts := [27, 5]) (by rw [Try.params7]) rfl boolK (by kernel_rfl) rfl
    (fun H ds hd => match ds, hd with | [d0, d1], _ => rfl) tallyAllows_law os started
    (ChangeSpec.witness6 (enc := enc) (C := Try.checked) false ⟨#[], #[dv0, .int .u8 0], []⟩ 8 (by kernel_rfl) (by kernel_rfl) (by kernel_rfl) (by kernel_rfl))
theorem tallyAllows_over : Rows.tallyAllowsRow.holds Try.pinned (OpenSpec.ofChange Rows.tallyAllowsSpec) :=
  OpenClaim.holds_of_wide 7 Try.f7 rfl rfl rfl rfl rfl rfl rfl ⟨rfl, rfl, rfl, rfl, rfl⟩ rfl rfl rfl rfl rfl (by kernel_rfl) Try.func7 (by kernel_rfl)
    (of_decide_eq_true (by kernel_rfl)) (by unfold Func.isWrapper; first | (rw [if_pos (by decide +kernel)]; kernel_rfl) | (rw [if_neg (by decide +kernel)]; exact ⟨rfl, rfl⟩))
    (fun os started H enc _ => tallyAllows_lifted os started H enc)
theorem tallyAllows_proved : Rows.TallyAllowsSaid := tallyAllows_over

end Go.Proofs.Ytgpfejgohclheaa
