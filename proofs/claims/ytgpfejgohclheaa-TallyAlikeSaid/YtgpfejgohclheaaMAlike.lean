/- The row of tallyAlike. -/
import Derived.Test.YtgpfejgohclheaaMK
namespace Go.Proofs.Ytgpfejgohclheaa
open Go.Pal Go.ChangeShapes Go.RowKit
set_option maxRecDepth 100000

theorem tallyAlike_law {H : Type} {enc : TypeId × Value → H} (W : World) (b0 : Nat) (args : Array Value) (ds : List (DataW H)) (p : List MemPlace) (hv : ∀ (j : Nat) t v, ([27, 4] : List TypeId)[j]? = some t → args[j]? = some v → Value.okWide Try.checked.prog W .any b0 t v) (h : DataW.TrodAll enc Try.checked.prog W 0 (fun _ => true) true [27, 4] args.toList ds p) :
    Calls Try.checked.prog 4 args W fun e W' => e = .returned (.bool true) ∧ Below W.heap.size W W' := by
  obtain ⟨v0, _, d0, _, p0, _, ha, rfl, rfl, t0, r0⟩ := trodAll_cons h
  obtain ⟨v1, _, d1, _, p1, _, rfl, rfl, rfl, t1, r1⟩ := trodAll_cons r0
  obtain ⟨rfl, rfl, rfl⟩ := trodAll_nil r1
  obtain rfl : args = #[v0, v1] := by cases args; simp_all
  obtain ⟨x0, h0⟩ := dv_val (o27.agg (fs := [(3, 0), (23, 1), (23, 3), (24, 5), (25, 6), (5, 7), (3, 8), (3, 9), (5, 10)]) (by kernel_rfl) (hv 0 27 _ rfl rfl) t0)
  obtain ⟨x1, h1⟩ := bool_val (o4.one (by kernel_rfl) (hv 1 4 _ rfl rfl) t1)
  have := law4 [v0, v1] (hpOf W) W (fun b o e => e) (⟨(x0, x1), v0, v1, rfl, h0.1, h1, h0.2⟩)
  exact this.mono fun e W' ⟨v, h1, ⟨_, _, h2⟩, h3⟩ => ⟨by rw [h1, h2], h3⟩
theorem tallyAlike_lifted (os : Os) (started : os.Started) (H : Type) (enc : TypeId × Value → H) :
    ReturnsInHanded {} Try.checked os 4 .any (Rows.tallyAlikeSpec.pre6 enc Try.prog Try.f4 Rows.tallyAlikeRow.domain false) (Rows.tallyAlikeSpec.post enc Try.prog Try.f4 false true false false) :=
  law_lifted ownK (by kernel_rfl) Try.func4 laidK (ts := [27, 4]) (by rw [Try.params4]) rfl boolK (by kernel_rfl) rfl
    (fun H ds hd => match ds, hd with | [d0, d1], _ => rfl) tallyAlike_law os started
    (ChangeSpec.witness6 (enc := enc) (C := Try.checked) false ⟨#[], #[dv0, .bool false], []⟩ 8 (by kernel_rfl) (by kernel_rfl) (by kernel_rfl) (by kernel_rfl))
theorem tallyAlike_over : Rows.tallyAlikeRow.holds Try.pinned (OpenSpec.ofChange Rows.tallyAlikeSpec) :=
  OpenClaim.holds_of_wide 4 Try.f4 rfl rfl rfl rfl rfl rfl rfl ⟨rfl, rfl, rfl, rfl, rfl⟩ rfl rfl rfl rfl rfl (by kernel_rfl) Try.func4 (by kernel_rfl)
    (of_decide_eq_true (by kernel_rfl)) (by unfold Func.isWrapper; first | (rw [if_pos (by decide +kernel)]; kernel_rfl) | (rw [if_neg (by decide +kernel)]; exact ⟨rfl, rfl⟩))
    (fun os started H enc _ => tallyAlike_lifted os started H enc)
theorem tallyAlike_proved : Rows.TallyAlikeSaid := tallyAlike_over

end Go.Proofs.Ytgpfejgohclheaa
