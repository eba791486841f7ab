/- The second law: the row. -/
import Derived.Test.YtcmhpndhloplpaaMF
namespace Go.Proofs.Ytcmhpndhloplpaa
open Go.Pal Go.ChangeShapes Go.RowKit
set_option maxRecDepth 100000

theorem once_law {H : Type} {enc : TypeId × Value → H} (W : World) (b0 : Nat) (args : Array Value) (ds : List (DataW H)) (p : List MemPlace) (hv : ∀ (j : Nat) t v, [24, 38][j]? = some t → args[j]? = some v → Value.okWide Try.checked.prog W .any b0 t v) (h : DataW.TrodAll enc Try.checked.prog W 0 (fun _ => true) true [24, 38] args.toList ds p) :
    Calls Try.checked.prog 4 args W fun e W' => e = .returned (.bool true) ∧ Below W.heap.size W W' := by
  obtain ⟨v0, _, d0, _, p0, _, ha, rfl, rfl, h0, r0⟩ := trodAll_cons h
  obtain ⟨v1, _, d1, _, p1, _, rfl, rfl, rfl, h1, r1⟩ := trodAll_cons r0
  obtain ⟨rfl, rfl, rfl⟩ := trodAll_nil r1
  obtain rfl : args = #[v0, v1] := by cases args; simp_all
  obtain ⟨s, w, rfl, a, n, c, rfl, hl⟩ := sit_val (o24.agg (fs := [(3, 0), (22, 1), (3, 2), (3, 3)]) (by kernel_rfl) (hv 0 24 _ rfl rfl) h0)
  obtain ⟨m, hm⟩ := u16_val (o38.one (by kernel_rfl) (hv 1 38 _ rfl rfl) h1)
  have := law4 [_, v1] (hpOf W) W (fun b o e => e) ⟨(s, m), _, _, rfl, ⟨a, n, c, rfl, hl⟩, hm⟩
  exact this.mono fun e W' ⟨v, h1, ⟨_, _, h2⟩, h3⟩ => ⟨by rw [h1, h2], h3⟩
theorem once_lifted (os : Os) (started : os.Started) (H : Type) (enc : TypeId × Value → H) :
    ReturnsInHanded {} Try.checked os 4 .any (Rows.takeOnceSpec.pre6 enc Try.prog Try.f4 Rows.takeOnceRow.domain false) (Rows.takeOnceSpec.post enc Try.prog Try.f4 false true false false) :=
  law_lifted ownK (by kernel_rfl) Try.func4 laidK (ts := [24, 38]) (by rw [Try.params4]) rfl boolK (by kernel_rfl) rfl
    (fun H ds hd => match ds, hd with | [d0, d1], _ => rfl) once_law os started
    (ChangeSpec.witness6 (enc := enc) (C := Try.checked) false ⟨#[], #[sit0, .int .u16 0], []⟩ 8 (by kernel_rfl) (by kernel_rfl) (by kernel_rfl) (by kernel_rfl))
theorem once_over : Rows.takeOnceRow.holds Try.pinned (OpenSpec.ofChange Rows.takeOnceSpec) :=
  OpenClaim.holds_of_wide 4 Try.f4 rfl rfl rfl rfl rfl rfl rfl ⟨rfl, rfl, rfl, rfl, rfl⟩ rfl rfl rfl rfl rfl (by kernel_rfl) Try.func4 (by kernel_rfl)
    (of_decide_eq_true (by kernel_rfl)) (by unfold Func.isWrapper; first | (rw [if_pos (by decide +kernel)]; kernel_rfl) | (rw [if_neg (by decide +kernel)]; exact ⟨rfl, rfl⟩))
    (fun os started H enc _ => once_lifted os started H enc)
theorem takeOnce_proved : Rows.TakeOnceSaid := once_over

end Go.Proofs.Ytcmhpndhloplpaa
