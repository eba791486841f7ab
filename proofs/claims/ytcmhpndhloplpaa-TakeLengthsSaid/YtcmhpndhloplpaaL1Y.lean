/- The first law: walked. -/
import Derived.Test.YtcmhpndhloplpaaL1X
namespace Go.Proofs.Ytcmhpndhloplpaa
open Go.Pal

set_option maxRecDepth 100000

def tabY : Tab Try.prog := Tab.cons 10 _ fault10 body10 (Tab.cons 11 _ awake11 body11 (Tab.cons 12 _ takes12 body12 (Tab.cons 13 _ sitting13 body13 (Tab.cons 14 _ paused14 body14 tabV))))
theorem fault_valid {s : Sit} (h : faultF s = 0) : validF s = true ∧ (takesF s).length ≤ 40 := by
  unfold faultF at h
  split at h
  · rename_i hv
    split at h
    · cases h
    · exact ⟨hv, by omega⟩
  · cases h
def drawnS : GRel Sit := fun args G s => ∃ a n c, args = [.agg #[I s.len, .slice a n c, I s.long, I s.short]] ∧ SlR spanE.k spanE.R G a n c s.ps
theorem law3 : Sound Try.prog 3 id (gsca drawnS fun _ v => v = .bool true) := by
  refine comp3.gsca tabY (fun args G s h => ?_) (fun args G s h => ?_)
  · obtain ⟨a, n, c, rfl, _⟩ := h; simp
  · obtain ⟨a, n, c, rfl, hl⟩ := h
    have hlen := hl.len
    (conv => whnf)
    refine IteP.mk (fun h60 => W.mk ?_) (fun h60 => W.mk ?_) <;> (conv => whnf)
    · refine ScaP.g okU (G := G) (x := ()) rfl (fun v hv => W.mk ?_)
      subst hv
      (conv => whnf)
      refine ForkP.mk (fun _ => W.mk ?_) (fun h => by cases h)
      (conv => whnf)
      exact FinP.mk rfl
    · have hn : n ≤ 140737488355328 := by omega
      refine ScaP.g (ok1 sitRd fun _ => True) (x := s) ⟨_, rfl, ⟨_, rfl, a, n, c, rfl, hl, hn⟩, trivial⟩ (fun v hv => W.mk ?_)
      subst hv
      (conv => whnf)
      refine IteP.mk (fun hf => W.mk ?_) (fun hf => W.mk ?_) <;> (conv => whnf)
      · obtain ⟨hv, ht⟩ := fault_valid hf
        have hcalm := valid_calm hv
        have hlaw := lengths_law hv
        have hbd := takes_bd hv
        refine RelP.g (ok1 sitRd fun s => s.ps.length ≤ 1000) (x := s) ⟨_, rfl, ⟨_, rfl, a, n, c, rfl, hl, hn⟩, by omega⟩ (Grow.refl _) (fun v G1 hg1 hq => W.mk ?_)
        obtain ⟨w1, rfl, a1, n1, c1, rfl, hl1, hn1⟩ := hq
        (conv => whnf)
        refine RelP.g (ok1 sitRd fun s => Calm s) (x := s) ⟨_, rfl, ⟨_, rfl, a1, n1, c1, rfl, hl1, hn1⟩, hcalm⟩ (Grow.refl _) (fun v G2 hg2 hq => W.mk ?_)
        obtain ⟨w2, rfl, hq⟩ := hq
        rw [if_pos hf] at hq
        rw [hf]
        obtain ⟨a2, n2, c2, rfl, hl2, hn2⟩ := hq
        replace hl := SlR.grow (G := G) (G' := G2) (fun _ _ h => h) hl (hg1.trans hg2)
        (conv => whnf)
        refine IteP.mk (fun _ => W.mk ?_) (fun h => absurd rfl h)
        (conv => whnf)
        have hlen2 := hl2.len
        refine LoopP.of { α := Nat, fr := fun x => [(1, .c (.ptr 0 0)), (3, .v (.slice a2 n2 c2)), (5, .v (I x))], H := fun _ => [(0, .cells .anon [.val (I s.len), .val (.slice a n c), .val (I s.long), .val (I s.short)] 24)], ok := fun x _ => x ≤ (takesF s).length, m := fun x => (takesF s).length - x }
          0 (HeadP.of [] ⟨rfl, rfl, rfl, trivial⟩ ⟨rfl, trivial⟩) (Nat.zero_le _) (fun _ => ⟨rfl, rfl⟩) (fun (x : Nat) G' hG hx => W.mk ?_)
        replace hx : x ≤ (takesF s).length := hx
        replace hl := SlR.grow (G := G2) (G' := G') (fun _ _ h => h) hl hG
        replace hl2 := SlR.grow (G := G2) (G' := G') (fun _ _ h => h) hl2 hG
        (conv => whnf)
        refine IteP.mk (fun hlt => W.mk ?_) (fun hge => W.mk ?_) <;> (conv => whnf)
        · have hlt : x < (takesF s).length := by omega
          have hc := hl2.el hlt
          have hp := hlaw _ (List.getElem_mem hlt)
          have hb := hbd _ (List.getElem_mem hlt)
          generalize (takesF s)[x] = p at hc hp hb
          obtain ⟨hp1, hp2, hp3⟩ := hp
          obtain ⟨_, hln1, hln2, hln3⟩ := validF_iff.1 hv
          repeat' (first | (refine OblP.mk ?_ (W.mk ?_); (first | trivial | omega | (simp only [inR]; omega) | exact Nat.le_of_ble_eq_true (by rfl) | exact SlR.some (by assumption) (by omega)); (conv => whnf)) | (first | (refine RdP.at (by assumption) (by rfl) (W.mk ?_); (conv => whnf)) | (refine RdP.sub (by assumption) (by rfl) (W.mk ?_); (conv => whnf)) | (refine RdP.sub2 (by assumption) (by rfl) (W.mk ?_); (conv => whnf)) | (refine RdP.sub3 (by assumption) (by rfl) (W.mk ?_); (conv => whnf))) | (refine IteP.mk (fun h => W.mk ?_) (fun h => W.mk ?_) <;> (conv => whnf)) | (refine ForkP.mk (fun h => W.mk ?_) (fun h => W.mk ?_) <;> (conv => whnf)) | (refine ScaP.g (ok2 sitRd intRd fun s _ => validF s = true) (x := (s, _)) ⟨_, _, rfl, ⟨_, rfl, a, n, c, rfl, hl, hn⟩, rfl, hv⟩ (fun v hv2 => W.mk ?_); subst hv2; (conv => whnf)) | exact RoundP.of (x + 1) (HeadP.of [] ⟨rfl, rfl, rfl, trivial⟩ ⟨rfl, trivial⟩) hlt (by simp only; omega))
          all_goals
            exfalso
            first
              | omega
              | (rcases hp3 with hp3 | ⟨q1 | q1, q2 | q2⟩ <;> first
                | omega
                | (have hh : pausedF s p.to = false := by assumption
                   rw [hh] at q2; cases q2)
                | (have hh : pausedF s (p.fr - 1) = false := by assumption
                   rw [hh] at q1; cases q1))
        · refine ScaP.g okU (G := G) (x := ()) rfl (fun v hv => W.mk ?_)
          subst hv
          (conv => whnf)
          refine ForkP.mk (fun _ => W.mk ?_) (fun h => by cases h)
          (conv => whnf)
          exact FinP.mk rfl
      · refine ScaP.g okU (G := G) (x := ()) rfl (fun v hv => W.mk ?_)
        subst hv
        (conv => whnf)
        refine ForkP.mk (fun _ => W.mk ?_) (fun h => by cases h)
        (conv => whnf)
        exact FinP.mk rfl
end Go.Proofs.Ytcmhpndhloplpaa
