/- The offices: valid; the work. -/
import Derived.Test.YtcmhpndhloplpaaL1Q
namespace Go.Proofs.Ytcmhpndhloplpaa
open Go.Pal

set_option maxRecDepth 100000

def tabR : Tab Try.prog := Tab.cons 72 _ idx72 body72 tabP
def anyS : PSpec := .st (fun args ls G => ∃ b, (∃ (w : Value) (l : List Rep), args = [w, closV b] ∧ SlV repE G w l) ∧ ls = ledQ b) (fun args _ v ns G => ∃ (b : Nat) (w : Value) (l : List Rep), args = [w, closV b] ∧ SlV repE G w l ∧ v = .bool (!(l.all fineR)) ∧ ns = [])
theorem any67 : Sound Try.prog 67 id anyS := by
  refine ⟨fun args ls v ns G G' hg h => ?_, fun args ls G Wd hsub hls hnd hpre => ?_⟩
  · obtain ⟨b, w, l, h1, h2, h3⟩ := h; exact ⟨b, w, l, h1, h2.grow hg, h3⟩
  obtain ⟨b, ⟨w, l, rfl, ⟨a, n, c, rfl, hl, hn⟩⟩, rfl⟩ := hpre
  refine st_sound tabR comp67 (svs := [.v (.slice a n c), .v (closV b)]) (obs := [.cells (.named b) [.val f63] 117]) (by simp) hsub hls hnd (Nat.le_refl _) ?_ ?_ ?_
  · exact ⟨rfl, trivial, rfl, trivial, trivial⟩
  · refine ⟨⟨_, rfl, relL_vals _ [f63], ?_⟩, trivial⟩
    intro c hc; simp at hc; subst hc; trivial
  · have hlen := hl.len
    (conv => whnf)
    refine StP.mk ⟨[(0, ⟨b, false, .cells [f63] 117⟩)], ⟨⟨_, rfl, rfl⟩, trivial⟩, by simp, ⟨b, ⟨_, l, rfl, ⟨a, n, c, rfl, hl, hn⟩⟩, rfl⟩, fun v ns G3 hg3 hpost => W.mk ?_⟩
    obtain ⟨b', w', l', q1, q2, rfl, rfl⟩ := hpost
    simp only [List.cons.injEq, and_true] at q1
    obtain ⟨rfl, _⟩ := q1
    have : l' = l := q2.uniq (SlV.grow hg3 ⟨a, n, c, rfl, hl, hn⟩)
    subst this
    have hall := idxF_all l' 0
    (conv => whnf)
    refine IteP.mk (fun hq => W.mk ?_) (fun hq => W.mk ?_) <;> (conv => whnf) <;> refine FinS.mk ⟨_, finQ rfl, b, _, l', rfl, q2, ?_, rfl⟩ <;> rw [← hall] <;> simp [*] <;> rfl
def argsF : GRel (List Rep) := fun args G l => ∃ w, args = [w, f63] ∧ SlV repE G w l
theorem okF : GOk argsF := ⟨fun _ _ _ _ ⟨v, h, h1⟩ ⟨v', h', h1'⟩ => by rw [h] at h'; cases h'; exact h1.uniq h1', fun _ _ _ _ hg ⟨v, h, h1⟩ => ⟨v, h, h1.grow hg⟩⟩
theorem all62 : Sound Try.prog 62 id (gsca argsF fun l v => v = .bool (l.all fineR)) := by
  refine comp62.gsca (Tab.cons 67 _ any67 body67 tabR) (fun args G s h => ?_) (fun args G l h => ?_)
  · obtain ⟨w, rfl, _⟩ := h; simp
  · obtain ⟨w, rfl, ⟨a, n, c, rfl, hl, hn⟩⟩ := h
    (conv => whnf)
    refine NameP.mk (fun b => W.mk ?_)
    (conv => whnf)
    refine StP.mk ⟨[(0, ⟨b, false, .cells [f63] 117⟩)], ⟨⟨_, rfl, rfl⟩, trivial⟩, by simp, ⟨b, ⟨_, l, rfl, ⟨a, n, c, rfl, hl, hn⟩⟩, rfl⟩, fun v ns G3 hg3 hpost => W.mk ?_⟩
    obtain ⟨b', w', l', q1, q2, rfl, rfl⟩ := hpost
    simp only [List.cons.injEq, and_true] at q1
    obtain ⟨rfl, _⟩ := q1
    have : l' = l := q2.uniq (SlV.grow hg3 ⟨a, n, c, rfl, hl, hn⟩)
    subst this
    (conv => whnf)
    refine ForkP.mk (fun hm => W.mk ?_) (fun hm => W.mk ?_) <;> (conv => whnf) <;> refine FinP.mk ?_ <;> (refine congrArg Value.bool ?_; simpa using hm)
def validO (o : Off) : Bool := inF o.crew.length 1 5 && (o.crew.all fineR && (inF o.due 0 36000 && inF o.delay 0 36000))
theorem valid49 : Sound Try.prog 49 id (gsca (args1 offRd fun _ => True) fun o v => v = .bool (validO o)) := by
  refine comp49.gsca (Tab.cons 62 _ all62 body62 (Tab.cons 67 _ any67 body67 tabR)) (fun args G s h => ?_) (fun args G o h => ?_)
  · obtain ⟨v, rfl, _⟩ := h; simp
  · obtain ⟨v, rfl, ⟨w, rfl, a, n, c, rfl, hl, hn⟩, _⟩ := h
    have hlen := hl.len
    (conv => whnf)
    refine OblP.mk ⟨_, _, _, rfl⟩ (W.mk ?_); (conv => whnf)
    refine ForkP.mk (fun h1 => W.mk ?_) (fun h1 => W.mk ?_) <;> (conv => whnf)
    · refine ScaP.g okF (x := o.crew) ⟨_, rfl, ⟨a, n, c, rfl, hl, hn⟩⟩ (fun v hv => W.mk ?_)
      subst hv
      (conv => whnf)
      refine ForkP.mk (fun h2 => W.mk ?_) (fun h2 => W.mk ?_) <;> (conv => whnf)
      · refine OblP.mk ⟨_, _, _, rfl⟩ (W.mk ?_); (conv => whnf)
        refine ForkP.mk (fun h3 => W.mk ?_) (fun h3 => W.mk ?_) <;> (conv => whnf)
        · refine OblP.mk ⟨_, _, _, rfl⟩ (W.mk ?_); (conv => whnf)
          repeat' (first | (refine ForkP.mk (fun _ => W.mk ?_) (fun _ => W.mk ?_) <;> (conv => whnf)) | (refine FinP.mk ?_))
          all_goals (refine congrArg Value.bool ?_; simp_all [validO])
        · repeat' (first | (refine ForkP.mk (fun _ => W.mk ?_) (fun _ => W.mk ?_) <;> (conv => whnf)) | (refine FinP.mk ?_))
          all_goals (refine congrArg Value.bool ?_; simp_all [validO])
      · repeat' (first | (refine ForkP.mk (fun _ => W.mk ?_) (fun _ => W.mk ?_) <;> (conv => whnf)) | (refine FinP.mk ?_))
        all_goals (refine congrArg Value.bool ?_; rw [validO, hlen, h1, h2]; rfl)
    · repeat' (first | (refine ForkP.mk (fun _ => W.mk ?_) (fun _ => W.mk ?_) <;> (conv => whnf)) | (refine FinP.mk ?_))
      all_goals (refine congrArg Value.bool ?_; simp_all [validO])
end Go.Proofs.Ytcmhpndhloplpaa
