/- Awake: the fixed example. -/
import Derived.Test.YtcmhpndhloplpaaL1U
namespace Go.Proofs.Ytcmhpndhloplpaa
open Go.Pal

set_option maxRecDepth 100000

theorem chamber_calm : Calm chamberS := fun p hp => by
  simp only [chamberS, List.mem_singleton] at hp
  subst hp
  simp only [inR]; omega
theorem chamber_fault : faultF chamberS = 0 := by decide +kernel
theorem chamber_takes : takesF chamberS = [⟨0, 180⟩, ⟨180, 400⟩, ⟨500, 680⟩, ⟨680, 860⟩, ⟨860, 1000⟩] := by decide +kernel
theorem chamber_err : rotaE chamberS chamberO = 0 := by decide +kernel
theorem chamber_rota : rotaF chamberS chamberO = [1, 0, 2, 1, 0] := by decide +kernel
theorem okU : GOk (fun args _ (_ : Unit) => args = []) := ⟨fun _ _ _ _ _ _ => rfl, fun _ _ _ _ _ h => h⟩
def tabV : Tab Try.prog := Tab.cons 12 _ takes12 body12 (Tab.cons 17 _ rota17 body17 (Tab.cons 28 _ chamber28 body28 (Tab.cons 29 _ ints29 body29 (Tab.cons 34 _ spans34 body34 tabT))))
theorem awake11 : Sound Try.prog 11 id (gsca (fun args _ (_ : Unit) => args = []) fun _ v => v = .bool true) := by
  refine comp11.gsca tabV (fun args G s h => ?_) (fun args G x h => ?_)
  · rw [h]; simp
  · rw [h]
    (conv => whnf)
    refine RelP.g okU (x := ()) rfl (Grow.refl _) (fun v G1 hg1 hq => W.mk ?_)
    obtain ⟨u, w, rfl, ⟨w1, rfl, a, n, c, rfl, hl, hn⟩, ⟨w2, rfl, a2, n2, c2, rfl, hl2, hn2⟩⟩ := hq
    (conv => whnf)
    refine RelP.g (ok1 sitRd fun s => Calm s) (x := chamberS) ⟨_, rfl, ⟨_, rfl, a, n, c, rfl, hl, hn⟩, chamber_calm⟩ (Grow.refl _) (fun v G2 hg2 hq => W.mk ?_)
    obtain ⟨w3, rfl, hq⟩ := hq
    rw [if_pos chamber_fault, chamber_takes] at hq
    rw [chamber_fault]
    obtain ⟨a3, n3, c3, rfl, hl3, hn3⟩ := hq
    (conv => whnf)
    refine RelP.g (ok2 sitRd offRd fun s _ => Calm s) (x := (chamberS, chamberO)) ⟨_, _, rfl, sitRd.grow hg2 ⟨_, rfl, a, n, c, rfl, hl, hn⟩, offRd.grow hg2 ⟨_, rfl, a2, n2, c2, rfl, hl2, hn2⟩, chamber_calm⟩ (Grow.refl _) (fun v G3 hg3 hq => W.mk ?_)
    obtain ⟨w4, rfl, hq⟩ := hq
    simp only at hq
    rw [if_pos chamber_err, chamber_rota] at hq
    dsimp only
    rw [chamber_err]
    obtain ⟨a4, n4, c4, rfl, hl4, hn4⟩ := hq
    (conv => whnf)
    refine IteP.mk (fun _ => W.mk ?_) (fun h => absurd rfl h)
    (conv => whnf)
    refine PubP.mk (fun a5 c5 G4 hg4 hp => W.mk ?_)
    (conv => whnf)
    refine ScaP.g (ok2 (slRd spanE) (slRd spanE) fun _ _ => True) (x := ([⟨0, 180⟩, ⟨180, 400⟩, ⟨500, 680⟩, ⟨680, 860⟩, ⟨860, 1000⟩], [⟨0, 180⟩, ⟨180, 400⟩, ⟨500, 680⟩, ⟨680, 860⟩, ⟨860, 1000⟩])) ⟨_, _, rfl, SlV.grow (hg3.trans hg4) ⟨a3, n3, c3, rfl, hl3, hn3⟩, hp.slV rfl rfl (by decide), trivial⟩ (fun v hv => W.mk ?_)
    have hv : v = .bool true := hv.trans (congrArg Value.bool (decide_eq_true rfl))
    subst hv
    clear hv
    (conv => whnf)
    refine ForkP.mk (fun _ => W.mk ?_) (fun h => by cases h)
    (conv => whnf)
    refine IteP.mk (fun _ => W.mk ?_) (fun h => absurd rfl h)
    (conv => whnf)
    refine PubP.mk (fun a6 c6 G5 hg5 hp6 => W.mk ?_)
    (conv => whnf)
    refine ScaP.g (ok2 (slRd intE) (slRd intE) fun _ _ => True) (x := ([1, 0, 2, 1, 0], [1, 0, 2, 1, 0])) ⟨_, _, rfl, SlV.grow (hg4.trans hg5) ⟨a4, n4, c4, rfl, hl4, hn4⟩, hp6.slV rfl rfl (by decide), trivial⟩ (fun v hv => W.mk ?_)
    have hv : v = .bool true := hv.trans (congrArg Value.bool (decide_eq_true rfl))
    subst hv
    clear hv
    (conv => whnf)
    refine ForkP.mk (fun _ => W.mk ?_) (fun h => by cases h)
    (conv => whnf)
    exact FinP.mk rfl
end Go.Proofs.Ytcmhpndhloplpaa
