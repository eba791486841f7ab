/- Proved: the statement VeilTurnedSaid, as it is given; no further condition. -/
import Derived.Test.YtpcpjmplgladmaaMK
import Derived.Test.YtpcpjmplgladmaaMN
set_option linter.unusedSimpArgs false
set_option linter.unusedVariables false
namespace Go.Proofs.Ytpcpjmplgladmaa
open Go.Pal Go.ChangeShapes Go.RowKit
set_option maxRecDepth 100000

theorem veilTurned_law {H : Type} {enc : TypeId × Value → H} (W : World) (b0 : Nat) (args : Array Value) (ds : List (DataW H)) (p : List MemPlace) (hv : ∀ (j : Nat) t v, ([25, 28, 5, 5] : List TypeId)[j]? = some t → args[j]? = some v → Value.okWide Try.checked.prog W .any b0 t v) (h : DataW.TrodAll enc Try.checked.prog W 0 (fun _ => true) true [25, 28, 5, 5] args.toList ds p) :
    Calls Try.checked.prog 7 args W fun e W' => e = .returned (.bool true) ∧ Below W.heap.size W W' := by
  obtain ⟨v0, _, d0, _, p0, _, ha, rfl, rfl, t0, r0⟩ := trodAll_cons h
  obtain ⟨v1, _, d1, _, p1, _, rfl, rfl, rfl, t1, r1⟩ := trodAll_cons r0
  obtain ⟨v2, _, d2, _, p2, _, rfl, rfl, rfl, t2, r2⟩ := trodAll_cons r1
  obtain ⟨v3, _, d3, _, p3, _, rfl, rfl, rfl, t3, r3⟩ := trodAll_cons r2
  obtain ⟨rfl, rfl, rfl⟩ := trodAll_nil r3
  obtain rfl : args = #[v0, v1, v2, v3] := by cases args; simp_all
  obtain ⟨x0, h0⟩ := rp_val (o25.agg (fs := [(22, 0), (23, 1), (3, 2)]) (by kernel_rfl) (hv 0 25 _ rfl rfl) t0)
  obtain ⟨x1, h1⟩ := rx_val (o28.agg (fs := [(3, 0), (26, 1)]) (by kernel_rfl) (hv 1 28 _ rfl rfl) t1)
  obtain ⟨x2, h2⟩ := u8_val (o5.one (by kernel_rfl) (hv 2 5 _ rfl rfl) t2)
  obtain ⟨x3, h3⟩ := u8_val (o5.one (by kernel_rfl) (hv 3 5 _ rfl rfl) t3)
  have := law7 [v0, v1, v2, v3] (hpOf W) W (fun b o e => e) (⟨(x0, x1, x2, x3), v0, v1, by rw [show v2 = U x2 from h2.1, show v3 = U x3 from h3.1], h0, h1, h2.2, h3.2⟩)
  exact this.mono fun e W' ⟨v, h1, ⟨_, _, h2⟩, h3⟩ => ⟨by rw [h1, h2], h3⟩
theorem veilTurned_lifted (os : Os) (started : os.Started) (H : Type) (enc : TypeId × Value → H) :
    ReturnsInHanded {} Try.checked os 7 .any (Rows.veilTurnedSpec.pre6 enc Try.prog Try.f7 Rows.veilTurnedRow.domain false) (Rows.veilTurnedSpec.post enc Try.prog Try.f7 false true false false) :=
  law_lifted ownK (by kernel_rfl) Try.func7 laidK (ts := [25, 28, 5, 5]) (by rw [Try.params7]) rfl boolK (by kernel_rfl) rfl
    (fun H ds hd => match ds, hd with | [d0, d1, d2, d3], _ => rfl) veilTurned_law os started
    (ChangeSpec.witness6 (enc := enc) (C := Try.checked) false ⟨#[], #[rp0, rx0, .int .u8 0, .int .u8 0], []⟩ 8 (by kernel_rfl) (by kernel_rfl) (by kernel_rfl) (by kernel_rfl))
theorem veilTurned_over : Rows.veilTurnedRow.holds Try.pinned (OpenSpec.ofChange Rows.veilTurnedSpec) :=
  OpenClaim.holds_of_wide 7 Try.f7 rfl rfl rfl rfl rfl rfl rfl ⟨rfl, rfl, rfl, rfl, rfl⟩ rfl rfl rfl rfl rfl (by kernel_rfl) Try.func7 (by kernel_rfl)
    (of_decide_eq_true (by kernel_rfl)) (by unfold Func.isWrapper; first | (rw [if_pos (by decide +kernel)]; kernel_rfl) | (rw [if_neg (by decide +kernel)]; exact ⟨rfl, rfl⟩))
    (fun os started H enc _ => veilTurned_lifted os started H enc)
theorem veilTurned_proved : Rows.VeilTurnedSaid := veilTurned_over

end Go.Proofs.Ytpcpjmplgladmaa
