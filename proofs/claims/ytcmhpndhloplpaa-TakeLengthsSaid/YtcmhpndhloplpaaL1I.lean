/- The work: sums, when a take is done. -/
import Derived.Test.YtcmhpndhloplpaaL1H
namespace Go.Proofs.Ytcmhpndhloplpaa
open Go.Pal

set_option maxRecDepth 100000

def natRd : Rd Nat := ⟨fun _ v x => v = I x, fun {_ _ _ _} h h' => by rw [h] at h'; simp at h'; omega, fun {_ _ _ _} _ h => h⟩
def spanRd : Rd Span := ⟨fun _ v p => v = .agg #[I p.fr, I p.to], fun {_ _ x y} h h' => by rw [h] at h'; cases x; cases y; simp at h'; simp [h'], fun {_ _ _ _} _ h => h⟩

def tabJ : Tab Try.prog := Tab.cons 12 _ takes12 body12 (Tab.cons 30 _ check30 body30 tabI)
abbrev Small (x : Int) : Prop := -100000000000000000 ≤ x ∧ x ≤ 100000000000000000
theorem sum_small : ∀ {l : List Int}, (∀ x ∈ l, Small x) → -100000000000000000 * l.length ≤ l.sum ∧ l.sum ≤ 100000000000000000 * l.length
  | [], _ => by simp
  | x :: r, h => by
    have := sum_small (l := r) fun y hy => h y (by simp [hy])
    have := h x (by simp)
    simp only [List.sum_cons, List.length_cons]; omega
theorem sum_take : ∀ {l : List Int} {i : Nat} (h : i < l.length), (l.take (i + 1)).sum = (l.take i).sum + l[i]
  | x :: r, 0, _ => by simp
  | x :: r, i + 1, h => by
    have := sum_take (l := r) (i := i) (by simpa using h)
    simp only [List.take_succ_cons, List.sum_cons, List.getElem_cons_succ, this]; omega
theorem sum60 : Sound Try.prog 60 id (gsca (args1 (slRd intE) fun l => l.length ≤ 5 ∧ ∀ x ∈ l, Small x) fun l v => v = I l.sum) := by
  refine comp60.gsca tabJ (fun args G s h => ?_) (fun args G l h => ?_)
  · obtain ⟨v, rfl, _⟩ := h; simp
  · obtain ⟨v, rfl, ⟨a, n, c, rfl, hl, hn⟩, h5, hs⟩ := h
    have hlen := hl.len
    have hall := sum_small hs
    (conv => whnf)
    refine LoopP.of { α := Nat, fr := fun x => [(2, .v (I (l.take x).sum)), (5, .v (.slice a n c)), (6, .v (I n)), (7, .v (I x))], H := fun _ => [], ok := fun x _ => x ≤ l.length, m := fun x => l.length - x }
      0 (HeadP.of [] ⟨rfl, rfl, rfl, rfl, trivial⟩ trivial) (Nat.zero_le _) (fun _ => ⟨rfl, rfl⟩) (fun (x : Nat) G' hG hx => W.mk ?_)
    replace hl := SlR.grow (G := G) (G' := G') (fun _ _ h => h) hl hG
    dsimp only at hx
    dsimp only
    (conv => whnf)
    refine IteP.mk (fun hlt => W.mk ?_) (fun hge => W.mk ?_) <;> (conv => whnf)
    · have hlt : x < l.length := by omega
      have hc := hl.el hlt
      have hx1 := hs _ (List.getElem_mem hlt)
      have hx2 := sum_small (l := l.take x) fun y hy => hs y (List.take_sublist _ _ |>.subset hy)
      have hx3 : (l.take (x + 1)).sum = (l.take x).sum + l[x] := sum_take hlt
      simp only [List.length_take] at hx2
      repeat' (first | (refine IteP.mk (fun _ => W.mk ?_) (fun _ => W.mk ?_) <;> (conv => whnf)) | (refine OblP.mk ?_ (W.mk ?_); (first | trivial | omega | (simp only [inR]; omega) | exact Nat.le_of_ble_eq_true (by rfl) | exact SlR.some (by assumption) (by omega)); (conv => whnf)) | (refine ForkP.mk (fun _ => W.mk ?_) (fun _ => W.mk ?_) <;> (conv => whnf)) | (refine RdP.at (by assumption) (by rfl) (W.mk ?_); (conv => whnf)) | (refine RdP.sub (by assumption) (by rfl) (W.mk ?_); (conv => whnf)) | (refine RdP.sub2 (by assumption) (by rfl) (W.mk ?_); (conv => whnf)) | (refine RdP.sub3 (by assumption) (by rfl) (W.mk ?_); (conv => whnf)) | (refine FinP.mk ?_))
      exact RoundP.of (x + 1) (HeadP.of [] ⟨by rw [hx3]; rfl, rfl, rfl, rfl, trivial⟩ trivial) (by show x + 1 ≤ _; omega) (by simp only; omega)
    · have : x = l.length := by omega
      subst this
      repeat' (first | (refine IteP.mk (fun _ => W.mk ?_) (fun _ => W.mk ?_) <;> (conv => whnf)) | (refine OblP.mk ?_ (W.mk ?_); (first | trivial | omega | (simp only [inR]; omega) | exact Nat.le_of_ble_eq_true (by rfl) | exact SlR.some (by assumption) (by omega)); (conv => whnf)) | (refine ForkP.mk (fun _ => W.mk ?_) (fun _ => W.mk ?_) <;> (conv => whnf)) | (refine RdP.at (by assumption) (by rfl) (W.mk ?_); (conv => whnf)) | (refine RdP.sub (by assumption) (by rfl) (W.mk ?_); (conv => whnf)) | (refine RdP.sub2 (by assumption) (by rfl) (W.mk ?_); (conv => whnf)) | (refine RdP.sub3 (by assumption) (by rfl) (W.mk ?_); (conv => whnf)) | (refine FinP.mk ?_))
      show I (l.take l.length).sum = _
      rw [List.take_length]

structure Slow where
  slow : Int
  delay : Int
deriving DecidableEq, Repr
def slowRd : Rd Slow := ⟨fun _ v p => v = .agg #[I p.slow, I p.delay], fun {_ _ x y} h h' => by rw [h] at h'; cases x; cases y; simp at h'; simp [h'], fun {_ _ _ _} _ h => h⟩
abbrev Little (x : Int) : Prop := 0 ≤ x ∧ x ≤ 1000000
def doneF (p : Span) (s : Slow) : Int := p.to + (p.to - p.fr) * s.slow + s.delay
theorem mul_little {a b : Int} (ha : -1000000 ≤ a ∧ a ≤ 1000000) (hb : Little b) : -1000000000000 ≤ a * b ∧ a * b ≤ 1000000000000 := by
  obtain ⟨h1, h2⟩ := hb
  have e1 : a * b ≤ 1000000 * b := Int.mul_le_mul_of_nonneg_right ha.2 h1
  have e2 : -1000000 * b ≤ a * b := Int.mul_le_mul_of_nonneg_right ha.1 h1
  omega
theorem done_bd {p : Span} {s : Slow} (h1 : Little p.fr) (h2 : Little p.to) (h3 : Little s.slow) (h4 : Little s.delay) : -2000000000000 ≤ doneF p s ∧ doneF p s ≤ 2000000000000 := by
  have := mul_little (a := p.to - p.fr) (b := s.slow) (by omega) h3
  simp only [doneF]; omega
theorem done47 : Sound Try.prog 47 id (gsca (args2 spanRd slowRd fun p s => Little p.fr ∧ Little p.to ∧ Little s.slow ∧ Little s.delay) fun x v => v = I (doneF x.1 x.2)) := by
  refine comp47.gsca (Tab.cons 60 _ sum60 body60 tabJ) (fun args G s h => ?_) (fun args G x h => ?_)
  · obtain ⟨v, w, rfl, _⟩ := h; simp
  · obtain ⟨p, s⟩ := x
    obtain ⟨v, w, rfl, rfl, rfl, h1, h2, h3, h4⟩ := h
    simp only at h1 h2 h3 h4
    have hm := mul_little (a := p.to - p.fr) (b := s.slow) (by omega) h3
    (conv => whnf)
    refine OblP.mk ⟨_, _, rfl, by simp only [inR]; omega⟩ (W.mk ?_)
    (conv => whnf)
    repeat' (refine OblP.mk ?_ (W.mk ?_); (first | trivial | omega | (simp only [inR]; omega) | exact Nat.le_of_ble_eq_true (by rfl) | exact SlR.some (by assumption) (by omega)); (conv => whnf))
    refine RelP.mk trivial (fun v G1 hg1 hq => W.mk ?_)
    obtain ⟨a, c, rfl, hp⟩ := hq
    (conv => whnf)
    refine ScaP.g (ok1 (slRd intE) _) (x := [p.to, (p.to - p.fr) * s.slow, s.delay]) ⟨_, rfl, hp.slV rfl rfl (by decide), by simp, by simp [Small]; omega⟩ (fun v hv => W.mk ?_)
    subst hv
    repeat' (first | (refine IteP.mk (fun _ => W.mk ?_) (fun _ => W.mk ?_) <;> (conv => whnf)) | (refine OblP.mk ?_ (W.mk ?_); (first | trivial | omega | (simp only [inR]; omega) | exact Nat.le_of_ble_eq_true (by rfl) | exact SlR.some (by assumption) (by omega)); (conv => whnf)) | (refine ForkP.mk (fun _ => W.mk ?_) (fun _ => W.mk ?_) <;> (conv => whnf)) | (refine RdP.at (by assumption) (by rfl) (W.mk ?_); (conv => whnf)) | (refine RdP.sub (by assumption) (by rfl) (W.mk ?_); (conv => whnf)) | (refine RdP.sub2 (by assumption) (by rfl) (W.mk ?_); (conv => whnf)) | (refine RdP.sub3 (by assumption) (by rfl) (W.mk ?_); (conv => whnf)) | (refine FinP.mk ?_))
    refine congrArg I ?_
    simp [doneF]; omega
end Go.Proofs.Ytcmhpndhloplpaa
