/- Proved: the statement DraftStyledSaid, as it is given; no further condition. -/
import Derived.Test.YtfppbjfbghaclaaGreatMN
set_option linter.unusedSimpArgs false
set_option linter.unusedVariables false
namespace Go.Proofs.YtfppbjfbghaclaaGreat
open Go.Pal Go.ChangeShapes Go.RowKit
set_option maxRecDepth 100000

theorem draftStyled_law {H : Type} {enc : TypeId × Value → H} (W : World) (b0 : Nat) (args : Array Value) (ds : List (DataW H)) (p : List MemPlace) (hv : ∀ (j : Nat) t v,([25,79] : List TypeId)[j]? = some t → args[j]? = some v → Value.okWide Tryz.checked.prog W .any b0 t v) (h : DataW.TrodAll enc Tryz.checked.prog W 0 (fun _ => true) true [25,79] args.toList ds p) :
  Calls Tryz.checked.prog 13 args W fun e W' => e = .returned (.bool true) ∧ Below W.heap.size W W' := by
 obtain ⟨v0,_,d0,_,p0,_,ha,rfl,rfl,t0,r0⟩ := trodAll_cons h
 obtain ⟨v1,_,d1,_,p1,_,rfl,rfl,rfl,t1,r1⟩ := trodAll_cons r0
 obtain ⟨rfl,rfl,rfl⟩ := trodAll_nil r1
 obtain rfl : args = #[v0,v1] := by cases args; simp_all
 obtain ⟨x0,h0⟩ := dr_val (o25.agg (fs := [(22,0),(23,1)]) (by kernel_rfl) (hv 0 25 _ rfl rfl) t0)
 obtain ⟨x1,h1⟩ := rus_val (o79.one (by kernel_rfl) (hv 1 79 _ rfl rfl) t1)
 have := law13 [v0,v1] (hpOf W) W (fun b o e => e) (⟨(x0,x1),v0,v1,rfl,h0,h1.1,h1.2⟩)
 exact this.mono fun e W' ⟨v,h1,⟨_,_,h2⟩,h3⟩ => ⟨by rw [h1,h2],h3⟩
theorem draftStyled_lifted (os : Os) (started : os.Started) (H : Type) (enc : TypeId × Value → H) :
  ReturnsInHanded {} Tryz.checked os 13 .any (Rows.draftStyledSpec.pre6 enc Tryz.prog Tryz.f13 Rows.draftStyledRow.domain false) (Rows.draftStyledSpec.post enc Tryz.prog Tryz.f13 false true false false) :=
 law_lifted ownK (by kernel_rfl) Tryz.func13 laidK (ts := [25,79]) (by rw [Tryz.params13]) rfl boolK (by kernel_rfl) rfl
  (fun H ds hd => match ds,hd with | [d0,d1],_ => rfl) draftStyled_law os started
  (ChangeSpec.witness6 (enc := enc) (C := Tryz.checked) false ⟨#[], #[dr0,sl0],[]⟩ 8 (by kernel_rfl) (by kernel_rfl) (by kernel_rfl) (by kernel_rfl))
theorem draftStyled_over : Rows.draftStyledRow.holds Tryz.pinned (OpenSpec.ofChange Rows.draftStyledSpec) :=
 OpenClaim.holds_of_wide 13 Tryz.f13 rfl rfl rfl rfl rfl rfl rfl ⟨rfl,rfl,rfl,rfl,rfl⟩ rfl rfl rfl rfl rfl (by kernel_rfl) Tryz.func13 (by kernel_rfl)
  (of_decide_eq_true (by kernel_rfl)) (by unfold Func.isWrapper; first | (rw [if_pos (by decide +kernel)]; kernel_rfl) | (rw [if_neg (by decide +kernel)]; exact ⟨rfl,rfl⟩))
  (fun os started H enc _ => draftStyled_lifted os started H enc)
theorem draftStyled_proved : Rows.DraftStyledSaid := draftStyled_over

end Go.Proofs.YtfppbjfbghaclaaGreat
