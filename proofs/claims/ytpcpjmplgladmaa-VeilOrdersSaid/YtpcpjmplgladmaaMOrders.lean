/- Proved: the statement VeilOrdersSaid, as it is given; no further condition. -/
import Derived.Test.YtpcpjmplgladmaaMK
import Derived.Test.YtpcpjmplgladmaaMN
set_option linter.unusedSimpArgs false
set_option linter.unusedVariables false
namespace Go.Proofs.Ytpcpjmplgladmaa
open Go.Pal Go.ChangeShapes Go.RowKit
set_option maxRecDepth 100000

theorem veilOrders_law {H : Type} {enc : TypeId × Value → H} (W : World) (b0 : Nat) (args : Array Value) (ds : List (DataW H)) (p : List MemPlace) (hv : ∀ (j : Nat) t v, ([25, 28] : List TypeId)[j]? = some t → args[j]? = some v → Value.okWide Try.checked.prog W .any b0 t v) (h : DataW.TrodAll enc Try.checked.prog W 0 (fun _ => true) true [25, 28] args.toList ds p) :
    Calls Try.checked.prog 11 args W fun e W' => e = .returned (.bool true) ∧ Below W.heap.size W W' := by
  obtain ⟨v0, _, d0, _, p0, _, ha, rfl, rfl, t0, r0⟩ := trodAll_cons h
  obtain ⟨v1, _, d1, _, p1, _, rfl, rfl, rfl, t1, r1⟩ := trodAll_cons r0
  obtain ⟨rfl, rfl, rfl⟩ := trodAll_nil r1
  obtain rfl : args = #[v0, v1] := by cases args; simp_all
  obtain ⟨x0, h0⟩ := rp_val (o25.agg (fs := [(22, 0), (23, 1), (3, 2)]) (by kernel_rfl) (hv 0 25 _ rfl rfl) t0)
  obtain ⟨x1, h1⟩ := rx_val (o28.agg (fs := [(3, 0), (26, 1)]) (by kernel_rfl) (hv 1 28 _ rfl rfl) t1)
  have := law11 useless36 [v0, v1] (hpOf W) W (fun b o e => e) (⟨(x0, x1), v0, v1, rfl, h0, h1, trivial⟩)
  exact this.mono fun e W' ⟨v, h1, ⟨_, _, h2⟩, h3⟩ => ⟨by rw [h1, h2], h3⟩
theorem veilOrders_lifted (os : Os) (started : os.Started) (H : Type) (enc : TypeId × Value → H) :
    ReturnsInHanded {} Try.checked os 11 .any (Rows.veilOrdersSpec.pre6 enc Try.prog Try.f11 Rows.veilOrdersRow.domain false) (Rows.veilOrdersSpec.post enc Try.prog Try.f11 false true false false) :=
  law_lifted ownK (by kernel_rfl) Try.func11 laidK (ts := [25, 28]) (by rw [Try.params11]) rfl boolK (by kernel_rfl) rfl
    (fun H ds hd => match ds, hd with | [d0, d1], _ => rfl) veilOrders_law os started
    (ChangeSpec.witness6 (enc := enc) (C := Try.checked) false ⟨#[], #[rp0, rx0], []⟩ 8 (by kernel_rfl) (by kernel_rfl) (by kernel_rfl) (by kernel_rfl))
theorem veilOrders_over : Rows.veilOrdersRow.holds Try.pinned (OpenSpec.ofChange Rows.veilOrdersSpec) :=
  OpenClaim.holds_of_wide 11 Try.f11 rfl rfl rfl rfl rfl rfl rfl ⟨rfl, rfl, rfl, rfl, rfl⟩ rfl rfl rfl rfl rfl (by kernel_rfl) Try.func11 (by kernel_rfl)
    (of_decide_eq_true (by kernel_rfl)) (by unfold Func.isWrapper; first | (rw [if_pos (by decide +kernel)]; kernel_rfl) | (rw [if_neg (by decide +kernel)]; exact ⟨rfl, rfl⟩))
    (fun os started H enc _ => veilOrders_lifted os started H enc)
theorem veilOrders_proved : Rows.VeilOrdersSaid := veilOrders_over

end Go.Proofs.Ytpcpjmplgladmaa
