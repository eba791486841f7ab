/- The row of tallyPairs. -/
import Derived.Test.YtgpfejgohclheaaGreatMK
namespace Go.Proofs.YtgpfejgohclheaaGreat
open Go.Pal Go.ChangeShapes Go.RowKit
set_option maxRecDepth 100000

theorem tallyPairs_law {H : Type} {enc : TypeId × Value → H} (W : World) (b0 : Nat) (args : Array Value) (ds : List (DataW H)) (p : List MemPlace) (hv : ∀ (j : Nat) t v, ([27, 57, 57, 5] : List TypeId)[j]? = some t → args[j]? = some v → Value.okWide Tryz.checked.prog W .any b0 t v) (h : DataW.TrodAll enc Tryz.checked.prog W 0 (fun _ => true) true [27, 57, 57, 5] args.toList ds p) :
    Calls Tryz.checked.prog 7 args W fun e W' => e = .returned (.bool true) ∧ Below W.heap.size W W' := by
  obtain ⟨v0, _, d0, _, p0, _, ha, rfl, rfl, t0, r0⟩ := trodAll_cons h
  obtain ⟨v1, _, d1, _, p1, _, rfl, rfl, rfl, t1, r1⟩ := trodAll_cons r0
  obtain ⟨v2, _, d2, _, p2, _, rfl, rfl, rfl, t2, r2⟩ := trodAll_cons r1
  obtain ⟨v3, _, d3, _, p3, _, rfl, rfl, rfl, t3, r3⟩ := trodAll_cons r2
  obtain ⟨rfl, rfl, rfl⟩ := trodAll_nil r3
  obtain rfl : args = #[v0, v1, v2, v3] := by cases args; simp_all
  obtain ⟨x0, h0⟩ := dv_val (o27.agg (fs := [(3, 0), (23, 1), (23, 3), (24, 5), (25, 6), (5, 7), (3, 8), (3, 9), (5, 10)]) (by kernel_rfl) (hv 0 27 _ rfl rfl) t0)
  obtain ⟨x1, h1⟩ := u32_val (o57.one (by kernel_rfl) (hv 1 57 _ rfl rfl) t1)
  obtain ⟨x2, h2⟩ := u32_val (o57.one (by kernel_rfl) (hv 2 57 _ rfl rfl) t2)
  obtain ⟨x3, h3⟩ := u8_val (o5.one (by kernel_rfl) (hv 3 5 _ rfl rfl) t3)
  have := law7z [v0, v1, v2, v3] (hpOf W) W (fun b o e => e) (⟨(x0, x1, x2, x3), v0, v1, v2, v3, rfl, h0.1, h1.1, h2.1, h3.1, h0.2, h1.2, h2.2, h3.2⟩)
  exact this.mono fun e W' ⟨v, h1, ⟨_, _, h2⟩, h3⟩ => ⟨by rw [h1, h2], h3⟩
theorem tallyPairs_lifted (os : Os) (started : os.Started) (H : Type) (enc : TypeId × Value → H) :
    ReturnsInHanded {} Tryz.checked os 7 .any (Rows.tallyPairsSpec.pre6 enc Tryz.prog Tryz.f7 Rows.tallyPairsRow.domain false) (Rows.tallyPairsSpec.post enc Tryz.prog Tryz.f7 false true false false) :=
  law_lifted ownK (by kernel_rfl) Tryz.func7 laidK (ts := [27, 57, 57, 5]) (by rw [Tryz.params7]) rfl boolK (by kernel_rfl) rfl
    (fun H ds hd => match ds, hd with | [d0, d1, d2, d3], _ => rfl) tallyPairs_law os started
    (ChangeSpec.witness6 (enc := enc) (C := Tryz.checked) false ⟨#[], #[dv0, .int .u32 0, .int .u32 0, .int .u8 0], []⟩ 8 (by kernel_rfl) (by kernel_rfl) (by kernel_rfl) (by kernel_rfl))
theorem tallyPairs_over : Rows.tallyPairsRow.holds Tryz.pinned (OpenSpec.ofChange Rows.tallyPairsSpec) :=
  OpenClaim.holds_of_wide 7 Tryz.f7 rfl rfl rfl rfl rfl rfl rfl ⟨rfl, rfl, rfl, rfl, rfl⟩ rfl rfl rfl rfl rfl (by kernel_rfl) Tryz.func7 (by kernel_rfl)
    (of_decide_eq_true (by kernel_rfl)) (by unfold Func.isWrapper; first | (rw [if_pos (by decide +kernel)]; kernel_rfl) | (rw [if_neg (by decide +kernel)]; exact ⟨rfl, rfl⟩))
    (fun os started H enc _ => tallyPairs_lifted os started H enc)
theorem tallyPairs_proved : Rows.TallyPairsSaid := tallyPairs_over

end Go.Proofs.YtgpfejgohclheaaGreat
