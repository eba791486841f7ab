/- The row of tallyWitness. -/
import Derived.Test.YtgpfejgohclheaaGreatMK
namespace Go.Proofs.YtgpfejgohclheaaGreat
open Go.Pal Go.ChangeShapes Go.RowKit
set_option maxRecDepth 100000

theorem tallyWitness_law {H : Type} {enc : TypeId × Value → H} (W : World) (b0 : Nat) (args : Array Value) (ds : List (DataW H)) (p : List MemPlace) (hv : ∀ (j : Nat) t v, ([27] : List TypeId)[j]? = some t → args[j]? = some v → Value.okWide Tryz.checked.prog W .any b0 t v) (h : DataW.TrodAll enc Tryz.checked.prog W 0 (fun _ => true) true [27] args.toList ds p) :
    Calls Tryz.checked.prog 9 args W fun e W' => e = .returned (.bool true) ∧ Below W.heap.size W W' := by
  obtain ⟨v0, _, d0, _, p0, _, ha, rfl, rfl, t0, r0⟩ := trodAll_cons h
  obtain ⟨rfl, rfl, rfl⟩ := trodAll_nil r0
  obtain rfl : args = #[v0] := by cases args; simp_all
  obtain ⟨x0, h0⟩ := dv_val (o27.agg (fs := [(3, 0), (23, 1), (23, 3), (24, 5), (25, 6), (5, 7), (3, 8), (3, 9), (5, 10)]) (by kernel_rfl) (hv 0 27 _ rfl rfl) t0)
  have := law9z [v0] (hpOf W) W (fun b o e => e) (⟨x0, v0, rfl, h0.1, h0.2⟩)
  exact this.mono fun e W' ⟨v, h1, ⟨_, _, h2⟩, h3⟩ => ⟨by rw [h1, h2], h3⟩
theorem tallyWitness_lifted (os : Os) (started : os.Started) (H : Type) (enc : TypeId × Value → H) :
    ReturnsInHanded {} Tryz.checked os 9 .any (Rows.tallyWitnessSpec.pre6 enc Tryz.prog Tryz.f9 Rows.tallyWitnessRow.domain false) (Rows.tallyWitnessSpec.post enc Tryz.prog Tryz.f9 false true false false) :=
  law_lifted ownK (by kernel_rfl) Tryz.func9 laidK (ts := [27]) (by rw [Tryz.params9]) rfl boolK (by kernel_rfl) rfl
    (fun H ds hd => match ds, hd with | [d0], _ => rfl) tallyWitness_law os started
    (ChangeSpec.witness6 (enc := enc) (C := Tryz.checked) false ⟨#[], #[dv0], []⟩ 8 (by kernel_rfl) (by kernel_rfl) (by kernel_rfl) (by kernel_rfl))
theorem tallyWitness_over : Rows.tallyWitnessRow.holds Tryz.pinned (OpenSpec.ofChange Rows.tallyWitnessSpec) :=
  OpenClaim.holds_of_wide 9 Tryz.f9 rfl rfl rfl rfl rfl rfl rfl ⟨rfl, rfl, rfl, rfl, rfl⟩ rfl rfl rfl rfl rfl (by kernel_rfl) Tryz.func9 (by kernel_rfl)
    (of_decide_eq_true (by kernel_rfl)) (by unfold Func.isWrapper; first | (rw [if_pos (by decide +kernel)]; kernel_rfl) | (rw [if_neg (by decide +kernel)]; exact ⟨rfl, rfl⟩))
    (fun os started H enc _ => tallyWitness_lifted os started H enc)
theorem tallyWitness_proved : Rows.TallyWitnessSaid := tallyWitness_over

end Go.Proofs.YtgpfejgohclheaaGreat
