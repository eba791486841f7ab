/- The program's sittings: the fault of one; copies. -/
import Derived.Test.YtcmhpndhloplpaaL1D
namespace Go.Proofs.Ytcmhpndhloplpaa
open Go.Pal

set_option maxRecDepth 100000

def tabD : Tab Try.prog := Tab.cons 33 _ takes33 body33 tabC

def faultF (s : Sit) : Int := if validF s = true then (if 40 < (takesF s).length then 3 else 0) else 1
theorem fault10 : Sound Try.prog 10 id (gsca (args1 sitRd fun _ => True) fun s v => v = I (faultF s)) := by
  refine comp10.gsca tabD (fun args G s h => ?_) (fun args G s h => ?_)
  · obtain ⟨v, rfl, _⟩ := h; simp
  · obtain ⟨v, rfl, ⟨w, rfl, a, n, c, rfl, hl, hn⟩, _⟩ := h
    (conv => whnf)
    refine ScaP.g (ok1 sitRd fun _ => True) (x := s) ⟨_, rfl, ⟨_, rfl, a, n, c, rfl, hl, hn⟩, trivial⟩ (fun v hv => W.mk ?_)
    subst hv
    (conv => whnf)
    refine ForkP.mk (fun hf => W.mk ?_) (fun hf => W.mk ?_) <;> (conv => whnf)
    · refine RelP.g (ok1 sitRd fun s => validF s = true) (x := s) ⟨_, rfl, ⟨_, rfl, a, n, c, rfl, hl, hn⟩, hf⟩ (Grow.refl _) (fun v G1 hg1 hq => W.mk ?_)
      obtain ⟨a1, n1, c1, rfl, hl1, hn1⟩ := hq
      have := hl1.len
      (conv => whnf)
      refine IteP.mk (fun h => W.mk ?_) (fun h => W.mk ?_) <;> (conv => whnf) <;> refine FinP.mk ?_
      · show I 3 = I (faultF s); rw [faultF, if_pos hf, if_pos (by omega)]
      · show I 0 = I (faultF s); rw [faultF, if_pos hf, if_neg (by omega)]
    · refine FinP.mk ?_
      show I 1 = I (faultF s); rw [faultF, if_neg (by simp [hf])]

theorem und27 : Try.prog.underlying 27 = some (.slice 35) := by kernel_rfl
theorem und46 : Try.prog.underlying 46 = some (.slice 3) := by kernel_rfl
theorem clone70 : Sound Try.prog 70 id (gown 35 2 (args1 (slRd spanE) fun l => l.length ≤ 8796093022207) fun l n vs => Row spanE l n vs) := by
  refine comp70.gown (Tab.nil _) (ok1 _ _) (fun args G s h => ?_) (fun args G l h => ?_)
  · obtain ⟨v, rfl, _⟩ := h; simp
  · obtain ⟨v, rfl, ⟨a, n, c, rfl, hl, hn⟩, hb⟩ := h
    have hlen := hl.len
    obtain ⟨q1, q2, q3⟩ := hl.all
    (conv => whnf)
    refine PurP.of _ (pur_sl_nil und27 a n c 0 0) (W.mk ?_)
    (conv => whnf)
    refine ForkP.mk (fun hf => W.mk ?_) (fun hf => W.mk ?_) <;> (conv => whnf)
    · refine OwnFin.mk ?_
      have : l = [] := by
        by_cases h0 : n = 0
        · exact List.eq_nil_of_length_eq_zero (by omega)
        · have := hl.some h0; rw [this] at hf; cases hf
      subst this; exact Row.nil
    · refine OblP.mk (fun h => hl.some h) (W.mk ?_); (conv => whnf)
      refine RdP.at q1 q2 (W.mk ?_); (conv => whnf)
      refine OblP.mk q3 (W.mk ?_); (conv => whnf)
      refine OblP.mk rfl (W.mk ?_); (conv => whnf)
      refine OblP.mk (by omega) (W.mk ?_); (conv => whnf)
      refine OwnFin.mk ⟨rfl, rfl, rfl, ?_⟩
      simp only [Nat.zero_add, List.nil_append]
      exact Row.of_all l hlen
theorem clone56 : Sound Try.prog 56 id (gown 3 1 (args1 (slRd intE) fun l => l.length ≤ 8796093022207) fun l n vs => Row intE l n vs) := by
  refine comp56.gown (Tab.nil _) (ok1 _ _) (fun args G s h => ?_) (fun args G l h => ?_)
  · obtain ⟨v, rfl, _⟩ := h; simp
  · obtain ⟨v, rfl, ⟨a, n, c, rfl, hl, hn⟩, hb⟩ := h
    have hlen := hl.len
    obtain ⟨q1, q2, q3⟩ := hl.all
    (conv => whnf)
    refine PurP.of _ (pur_sl_nil und46 a n c 0 0) (W.mk ?_)
    (conv => whnf)
    refine ForkP.mk (fun hf => W.mk ?_) (fun hf => W.mk ?_) <;> (conv => whnf)
    · refine OwnFin.mk ?_
      have : l = [] := by
        by_cases h0 : n = 0
        · exact List.eq_nil_of_length_eq_zero (by omega)
        · have := hl.some h0; rw [this] at hf; cases hf
      subst this; exact Row.nil
    · refine OblP.mk (fun h => hl.some h) (W.mk ?_); (conv => whnf)
      refine RdP.at q1 q2 (W.mk ?_); (conv => whnf)
      refine OblP.mk q3 (W.mk ?_); (conv => whnf)
      refine OblP.mk rfl (W.mk ?_); (conv => whnf)
      refine OblP.mk (by omega) (W.mk ?_); (conv => whnf)
      refine OwnFin.mk ⟨rfl, rfl, rfl, ?_⟩
      simp only [Nat.zero_add, List.nil_append]
      exact Row.of_all l hlen
end Go.Proofs.Ytcmhpndhloplpaa
