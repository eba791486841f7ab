/- The work; the rota. -/
import Derived.Test.YtcmhpndhloplpaaL1R
namespace Go.Proofs.Ytcmhpndhloplpaa
open Go.Pal

set_option maxRecDepth 100000

def tabS : Tab Try.prog := Tab.cons 49 _ valid49 body49 (Tab.cons 44 _ least44 body44 tabR)
def errW (s : Sit) (o : Off) : Int := if faultF s = 0 then (if validO o then 0 else 1) else faultF s
def wkF (s : Sit) (o : Off) : Wk := ⟨s, o, takesF s⟩
def WkR (G : Hp) (v : Value) (s : Sit) (o : Off) : Prop := ∃ w, v = .tuple #[w, I (errW s o)] ∧ (if errW s o = 0 then WorkV G w (wkF s o) else w = .pointer none)
theorem WkR.grow {G G' : Hp} {v : Value} {s : Sit} {o : Off} (hg : Grow G G') (h : WkR G v s o) : WkR G' v s o := by
  obtain ⟨w, h1, h2⟩ := h
  refine ⟨w, h1, ?_⟩
  split at h2
  · rename_i he; rw [if_pos he]; exact WorkV.grow hg h2
  · rename_i he; rw [if_neg he]; exact h2
theorem work43 : Sound Try.prog 43 id (grel (args2 sitRd offRd fun s _ => Calm s) fun x v G => WkR G v x.1 x.2) := by
  refine comp43.grel tabS (ok2 _ _ _) (fun args G s h => ?_) (fun x v G G' hg h => WkR.grow hg h) (fun args G x h => ?_)
  · obtain ⟨v, w, rfl, _⟩ := h; simp
  · obtain ⟨s, o⟩ := x
    obtain ⟨u, v, rfl, ⟨w1, rfl, a, n, c, rfl, hl, hn⟩, ⟨w2, rfl, a2, n2, c2, rfl, hl2, hn2⟩, hcalm⟩ := h
    simp only at hl hl2 hcalm
    dsimp only
    (conv => whnf)
    refine RelP.g (ok1 sitRd fun s => Calm s) (x := s) ⟨_, rfl, ⟨_, rfl, a, n, c, rfl, hl, hn⟩, hcalm⟩ (Grow.refl _) (fun v G1 hg1 hq => W.mk ?_)
    obtain ⟨w, rfl, hq⟩ := hq
    split at hq
    · rename_i he
      obtain ⟨a1, n1, c1, rfl, hl1, hn1⟩ := hq
      (conv => whnf)
      refine IteP.mk (fun h => W.mk ?_) (fun h => absurd he h)
      (conv => whnf)
      refine ScaP.g (ok1 offRd fun _ => True) (x := o) ⟨_, rfl, ⟨_, rfl, a2, n2, c2, rfl, SlR.grow (G := G) (G' := G1) (fun _ _ h => h) hl2 hg1, hn2⟩, trivial⟩ (fun v hv => W.mk ?_)
      subst hv
      (conv => whnf)
      refine ForkP.mk (fun h2 => W.mk ?_) (fun h2 => W.mk ?_) <;> (conv => whnf)
      · refine PubCP.mk (fun b G2 hg2 hc => W.mk ?_)
        (conv => whnf)
        refine FinP.mk ?_
        have e0 : errW s o = 0 := by rw [errW, if_pos he, if_pos h2]
        refine ⟨_, by rw [e0]; rfl, ?_⟩
        rw [if_pos e0]
        exact ⟨b, _, _, _, rfl, hc, SlV.grow (hg1.trans hg2) ⟨a, n, c, rfl, hl, hn⟩, SlV.grow (hg1.trans hg2) ⟨a2, n2, c2, rfl, hl2, hn2⟩, SlV.grow hg2 ⟨a1, n1, c1, rfl, hl1, hn1⟩⟩
      · refine FinP.mk ?_
        have e0 : errW s o = 1 := by rw [errW, if_pos he, if_neg (by rw [h2]; decide)]
        refine ⟨_, by rw [e0]; rfl, ?_⟩
        rw [if_neg (by rw [e0]; decide)]
    · rename_i he
      subst hq
      (conv => whnf)
      refine IteP.mk (fun h => absurd h he) (fun h => W.mk ?_)
      (conv => whnf)
      refine FinP.mk ?_
      have e0 : errW s o = faultF s := by rw [errW, if_neg he]
      refine ⟨_, by rw [e0]; rfl, ?_⟩
      rw [if_neg (by rw [e0]; exact he)]
end Go.Proofs.Ytcmhpndhloplpaa
