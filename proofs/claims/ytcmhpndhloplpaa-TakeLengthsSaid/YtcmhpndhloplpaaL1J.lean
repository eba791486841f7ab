/- The work: the worst; what may come next. -/
import Derived.Test.YtcmhpndhloplpaaL1I
namespace Go.Proofs.Ytcmhpndhloplpaa
open Go.Pal

set_option maxRecDepth 100000

def tabK : Tab Try.prog := Tab.cons 47 _ done47 body47 (Tab.cons 60 _ sum60 body60 tabJ)
structure Wk where
  s : Sit
  o : Off
  t : List Span
deriving DecidableEq, Repr
def WorkV (G : Hp) (v : Value) (x : Wk) : Prop := ∃ b w1 w2 w3, v = .pointer (some ⟨b, 0, none⟩) ∧ CellsAt G b 0 [I x.s.len, w1, I x.s.long, I x.s.short, w2, I x.o.due, I x.o.delay, w3] ∧ SlV spanE G w1 x.s.ps ∧ SlV repE G w2 x.o.crew ∧ SlV spanE G w3 x.t
theorem WorkV.uniq {G : Hp} {v : Value} {x y : Wk} (h : WorkV G v x) (h' : WorkV G v y) : x = y := by
  obtain ⟨b, w1, w2, w3, rfl, c, h1, h2, h3⟩ := h
  obtain ⟨b', w1', w2', w3', e, c', h1', h2', h3'⟩ := h'
  cases e
  have e := c.eq c' rfl
  simp only [List.cons.injEq, and_true, Value.int.injEq, true_and] at e
  obtain ⟨e1, rfl, e2, e3, rfl, e4, e5, rfl⟩ := e
  have g1 := h1.uniq h1'; have g2 := h2.uniq h2'; have g3 := h3.uniq h3'
  obtain ⟨⟨_, _, _, _⟩, ⟨_, _, _⟩, _⟩ := x
  obtain ⟨⟨_, _, _, _⟩, ⟨_, _, _⟩, _⟩ := y
  simp_all
theorem WorkV.grow {G G' : Hp} {v : Value} {x : Wk} (hg : Grow G G') (h : WorkV G v x) : WorkV G' v x := by
  obtain ⟨b, w1, w2, w3, e, c, h1, h2, h3⟩ := h
  exact ⟨b, w1, w2, w3, e, c.grow hg, h1.grow hg, h2.grow hg, h3.grow hg⟩
def workRd : Rd Wk := ⟨WorkV, fun h h' => h.uniq h', fun hg h => h.grow hg⟩

def doneW (x : Wk) (n i : Nat) : Int := doneF (x.t.getD n ⟨0, 0⟩) ⟨(x.o.crew.getD i ⟨0, 0, 0⟩).hi, x.o.delay⟩
structure Fine (x : Wk) : Prop where
  t : ∀ p ∈ x.t, Little p.fr ∧ Little p.to
  r : ∀ p ∈ x.o.crew, Little p.lo ∧ Little p.hi ∧ Little p.rest
  due : Little x.o.due
  delay : Little x.o.delay
theorem worst48 : Sound Try.prog 48 id (gsca (args3 workRd natRd natRd fun x n i => Fine x ∧ n < x.t.length ∧ i < x.o.crew.length) fun x v => v = I (doneW x.1 x.2.1 x.2.2)) := by
  refine comp48.gsca tabK (fun args G s h => ?_) (fun args G x h => ?_)
  · obtain ⟨u, v, w, rfl, _⟩ := h; simp
  · obtain ⟨x, n, i⟩ := x
    obtain ⟨u, v, w, rfl, ⟨b, w1, w2, w3, rfl, c, ⟨a1, n1, c1, rfl, l1, hn1⟩, ⟨a2, n2, c2, rfl, l2, hn2⟩, ⟨a3, n3, c3, rfl, l3, hn3⟩⟩, rfl, rfl, hf, hn, hi⟩ := h
    simp only at hf hn hi c l1 l2 l3
    have e2 := l2.len
    have e3 := l3.len
    have k2 := l2.el hi
    have k3 := l3.el hn
    have f3 := hf.t _ (List.getElem_mem hn)
    have f2 := hf.r _ (List.getElem_mem hi)
    (conv => whnf)
    repeat' (first | (refine OblP.mk ?_ (W.mk ?_); (first | trivial | omega | (simp only [inR]; omega) | exact Nat.le_of_ble_eq_true (by rfl) | exact SlR.some (by assumption) (by omega)); (conv => whnf)) | (first | (refine RdP.at (by assumption) (by rfl) (W.mk ?_); (conv => whnf)) | (refine RdP.sub (by assumption) (by rfl) (W.mk ?_); (conv => whnf)) | (refine RdP.sub2 (by assumption) (by rfl) (W.mk ?_); (conv => whnf)) | (refine RdP.sub3 (by assumption) (by rfl) (W.mk ?_); (conv => whnf))))
    refine ScaP.g (ok2 spanRd slowRd fun p s => Little p.fr ∧ Little p.to ∧ Little s.slow ∧ Little s.delay) (x := (x.t[n], ⟨x.o.crew[i].hi, x.o.delay⟩)) ⟨_, _, rfl, rfl, rfl, f3.1, f3.2, f2.2.1, hf.delay⟩ (fun v hv => W.mk ?_)
    subst hv
    repeat' (first | (refine IteP.mk (fun _ => W.mk ?_) (fun _ => W.mk ?_) <;> (conv => whnf)) | (refine OblP.mk ?_ (W.mk ?_); (first | trivial | omega | (simp only [inR]; omega) | exact Nat.le_of_ble_eq_true (by rfl) | exact SlR.some (by assumption) (by omega)); (conv => whnf)) | (refine ForkP.mk (fun _ => W.mk ?_) (fun _ => W.mk ?_) <;> (conv => whnf)) | (refine RdP.at (by assumption) (by rfl) (W.mk ?_); (conv => whnf)) | (refine RdP.sub (by assumption) (by rfl) (W.mk ?_); (conv => whnf)) | (refine RdP.sub2 (by assumption) (by rfl) (W.mk ?_); (conv => whnf)) | (refine RdP.sub3 (by assumption) (by rfl) (W.mk ?_); (conv => whnf)) | (refine FinP.mk ?_))
    refine congrArg I ?_
    simp [doneW, hn, hi]
end Go.Proofs.Ytcmhpndhloplpaa
