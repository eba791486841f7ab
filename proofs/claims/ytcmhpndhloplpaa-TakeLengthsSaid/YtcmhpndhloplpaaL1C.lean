/- The reference's sittings: paused, stretches. -/
import Derived.Test.YtcmhpndhloplpaaL1B
namespace Go.Proofs.Ytcmhpndhloplpaa
open Go.Pal

set_option maxRecDepth 100000

theorem goodSpan_iff {last len : Int} {p : Span} : goodSpan last len p = true ↔ last < p.fr ∧ 0 ≤ p.fr ∧ p.fr < p.to ∧ p.to ≤ len := by
  simp only [goodSpan, Bool.not_eq_true', Bool.or_eq_false_iff, decide_eq_false_iff_not]
  omega
theorem spansOk_mem {len : Int} : ∀ {l : List Span} {last : Int}, spansOk len last l = true → ∀ p ∈ l, last < p.fr ∧ 0 ≤ p.fr ∧ p.fr < p.to ∧ p.to ≤ len
  | [], _, _, p, hp => by cases hp
  | q :: r, last, h, p, hp => by
    simp only [spansOk, Bool.and_eq_true, goodSpan_iff] at h
    rcases List.mem_cons.1 hp with rfl | hp
    · exact h.1
    · have := spansOk_mem h.2 p hp; omega
theorem spansOk_len {len : Int} : ∀ {l : List Span} {last : Int}, spansOk len last l = true → l ≠ [] → last + l.length ≤ len
  | [], _, _, h => absurd rfl h
  | q :: r, last, h, _ => by
    simp only [spansOk, Bool.and_eq_true, goodSpan_iff] at h
    by_cases hr : r = []
    · subst hr; simp; omega
    · have := spansOk_len h.2 hr; simp; omega
theorem validF_iff {s : Sit} : validF s = true ↔ spansOk s.len (-1) s.ps = true ∧ (1 ≤ s.len ∧ s.len ≤ 36000) ∧ (1 ≤ s.long ∧ s.long ≤ 1200) ∧ 1 ≤ s.short ∧ s.short ≤ s.long := by
  simp only [validF, inF, Bool.and_eq_true, decide_eq_true_eq]
theorem valid_len {s : Sit} (h : validF s = true) : s.ps.length ≤ 36001 := by
  rw [validF_iff] at h
  by_cases hr : s.ps = []
  · simp [hr]
  · have := spansOk_len h.1 hr; omega

def pausedF (s : Sit) (n : Int) : Bool := s.ps.any fun p => inF n p.fr (p.to - 1)
theorem paused14 : Sound Try.prog 14 id (gsca (args2 sitRd intRd fun s _ => validF s = true) fun x v => v = .bool (pausedF x.1 x.2)) := by
  refine comp14.gsca tabA (fun args G s h => ?_) (fun args G x h => ?_)
  · obtain ⟨v, w, rfl, _⟩ := h; simp
  · obtain ⟨s, m⟩ := x
    obtain ⟨v, w, rfl, ⟨w, rfl, a, n, c, rfl, hl, hn⟩, rfl, hv⟩ := h
    simp only at hl hv
    have hm := spansOk_mem (validF_iff.1 hv).1
    have hln := (validF_iff.1 hv).2.1
    (conv => whnf)
    refine LoopP.of { α := Nat, fr := fun x => [(1, .v (I m)), (2, .c (.ptr 0 0)), (5, .v (I x))], H := fun _ => [(0, .cells .anon [.val (I s.len), .val (.slice a n c), .val (I s.long), .val (I s.short)] 24)], ok := fun x _ => x ≤ s.ps.length ∧ pausedF s m = (s.ps.drop x).any fun p => inF m p.fr (p.to - 1), m := fun x => s.ps.length - x }
      0 (HeadP.of [] ⟨rfl, rfl, rfl, trivial⟩ ⟨rfl, trivial⟩) ⟨Nat.zero_le _, rfl⟩ (fun _ => ⟨rfl, rfl⟩) (fun (x : Nat) G' hG hx => W.mk ?_)
    obtain ⟨hi, hx⟩ := hx
    replace hl := SlR.grow (G := G) (G' := G') (fun _ _ h => h) hl hG
    have hlen := hl.len
    (conv => whnf)
    refine IteP.mk (fun hlt => W.mk ?_) (fun hge => W.mk ?_) <;> (conv => whnf)
    · have hlt : x < s.ps.length := by omega
      have hc := hl.el hlt
      have hp := hm _ (List.getElem_mem hlt)
      rw [List.drop_eq_getElem_cons hlt, List.any_cons] at hx
      repeat' (first | (refine OblP.mk ⟨_, _, _, rfl⟩ (W.mk ?_); (conv => whnf)) | (refine OblP.mk ?_ (W.mk ?_); (first | trivial | omega | (simp only [inR]; omega) | exact Nat.le_of_ble_eq_true (by rfl) | exact SlR.some (by assumption) (by omega)); (conv => whnf)) | (first | (refine RdP.at (by assumption) (by rfl) (W.mk ?_); (conv => whnf)) | (refine RdP.sub (by assumption) (by rfl) (W.mk ?_); (conv => whnf)) | (refine RdP.sub2 (by assumption) (by rfl) (W.mk ?_); (conv => whnf)) | (refine RdP.sub3 (by assumption) (by rfl) (W.mk ?_); (conv => whnf))) | (refine ForkP.mk (fun hf => W.mk ?_) (fun hf => W.mk ?_) <;> (conv => whnf)) | (refine FinP.mk ?_))
      · refine congrArg Value.bool ?_; simp [hx, hf]
      · exact RoundP.of (x + 1) (HeadP.of [] ⟨rfl, rfl, rfl, trivial⟩ ⟨rfl, trivial⟩) ⟨by show x + 1 ≤ _; omega, by simp [hx, hf]⟩ (by simp only; omega)
    · have : x = s.ps.length := by omega
      subst this
      simp only [List.drop_length] at hx
      repeat' (first | (refine IteP.mk (fun _ => W.mk ?_) (fun _ => W.mk ?_) <;> (conv => whnf)) | (refine OblP.mk ?_ (W.mk ?_); (first | trivial | omega | (simp only [inR]; omega) | exact Nat.le_of_ble_eq_true (by rfl) | exact SlR.some (by assumption) (by omega)); (conv => whnf)) | (refine ForkP.mk (fun _ => W.mk ?_) (fun _ => W.mk ?_) <;> (conv => whnf)) | (refine RdP.at (by assumption) (by rfl) (W.mk ?_); (conv => whnf)) | (refine RdP.sub (by assumption) (by rfl) (W.mk ?_); (conv => whnf)) | (refine RdP.sub2 (by assumption) (by rfl) (W.mk ?_); (conv => whnf)) | (refine RdP.sub3 (by assumption) (by rfl) (W.mk ?_); (conv => whnf)) | (refine FinP.mk ?_))
      refine congrArg Value.bool ?_; simp [hx]

def stretchesF (len : Int) : Int → List Span → List Span
  | fr, [] => if fr < len then [⟨fr, len⟩] else []
  | fr, p :: r => (if fr < p.fr then [⟨fr, p.fr⟩] else []) ++ stretchesF len p.to r
theorem stretches50 : Sound Try.prog 50 id (grel (args1 sitRd fun s => validF s = true) fun s v G => SlV spanE G v (stretchesF s.len 0 s.ps)) := by
  refine comp50.grel tabA (ok1 _ _) (fun args G s h => ?_) (fun x v G G' hg h => h.grow hg) (fun args G s h => ?_)
  · obtain ⟨v, rfl, _⟩ := h; simp
  · obtain ⟨v, rfl, ⟨w, rfl, a, n, c, rfl, hl, hn⟩, hv⟩ := h
    have hvl := valid_len hv
    (conv => whnf)
    refine LoopP.of { α := Nat × Int × List Span × Nat × List Value, fr := fun x => [(1, .c (.ptr 0 0)), (3, .c (.row 2 x.2.2.2.1)), (4, .v (I x.2.1)), (5, .v (I x.1))], H := fun x => [(0, .cells .anon [.val (I s.len), .val (.slice a n c), .val (I s.long), .val (I s.short)] 24), (2, .row none x.2.2.2.1 x.2.2.2.2 41 2)], ok := fun x _ => x.1 ≤ s.ps.length ∧ x.2.2.1.length ≤ x.1 ∧ Row spanE x.2.2.1 x.2.2.2.1 x.2.2.2.2 ∧ x.2.2.1 ++ stretchesF s.len x.2.1 (s.ps.drop x.1) = stretchesF s.len 0 s.ps, m := fun x => s.ps.length - x.1 }
      (0, 0, [], 0, []) (HeadP.of [(2, none)] ⟨rfl, rfl, rfl, rfl, trivial⟩ ⟨rfl, rfl, trivial⟩) ⟨Nat.zero_le _, Nat.le_refl _, Row.nil, rfl⟩ (fun _ => ⟨rfl, rfl⟩) (fun x G' hG hx => W.mk ?_)
    obtain ⟨i, fr, out, m, vs⟩ := x
    obtain ⟨hi, ho, hr, hx⟩ := hx
    simp only at hi ho hx hr
    replace hl := SlR.grow (G := G) (G' := G') (fun _ _ h => h) hl hG
    have hlen := hl.len
    have hm := hr.n
    (conv => whnf)
    refine IteP.mk (fun hlt => W.mk ?_) (fun hge => W.mk ?_) <;> (conv => whnf)
    · have hlt : i < s.ps.length := by omega
      have hc := hl.el hlt
      rw [List.drop_eq_getElem_cons hlt, stretchesF] at hx
      repeat' (first | (refine IteP.mk (fun hf => W.mk ?_) (fun hf => W.mk ?_) <;> (conv => whnf)) | (refine OblP.mk ?_ (W.mk ?_); (first | trivial | omega | (simp only [inR]; omega) | exact Nat.le_of_ble_eq_true (by rfl) | exact SlR.some (by assumption) (by omega)); (conv => whnf)) | (first | (refine RdP.at (by assumption) (by rfl) (W.mk ?_); (conv => whnf)) | (refine RdP.sub (by assumption) (by rfl) (W.mk ?_); (conv => whnf)) | (refine RdP.sub2 (by assumption) (by rfl) (W.mk ?_); (conv => whnf)) | (refine RdP.sub3 (by assumption) (by rfl) (W.mk ?_); (conv => whnf))))
      · refine RoundP.of (i + 1, s.ps[i].to, out ++ [⟨fr, s.ps[i].fr⟩], m + 1, vs ++ [I fr, I s.ps[i].fr]) (HeadP.of [(2, some 28)] ⟨rfl, rfl, rfl, rfl, trivial⟩ ⟨rfl, rfl, trivial⟩) ⟨hlt, by simp; omega, hr.snoc _, ?_⟩ (by simp only; omega)
        rw [← hx, if_pos hf]; simp
      · refine RoundP.of (i + 1, s.ps[i].to, out, m, vs) (HeadP.of [] ⟨rfl, rfl, rfl, rfl, trivial⟩ ⟨rfl, rfl, trivial⟩) ⟨hlt, by simp; omega, hr, ?_⟩ (by simp only; omega)
        rw [← hx, if_neg hf]; simp
    · have : i = s.ps.length := by omega
      subst this
      simp only [List.drop_length, stretchesF] at hx
      repeat' (first | (refine IteP.mk (fun hf => W.mk ?_) (fun hf => W.mk ?_) <;> (conv => whnf)) | (refine OblP.mk ?_ (W.mk ?_); (first | trivial | omega | (simp only [inR]; omega) | exact Nat.le_of_ble_eq_true (by rfl) | exact SlR.some (by assumption) (by omega)); (conv => whnf)))
      · refine PubP.mk (fun a1 c1 G1 hg1 hp => W.mk ?_)
        (conv => whnf)
        refine FinP.mk ?_
        rw [if_pos hf] at hx
        rw [← hx]
        exact (hr.snoc _).pub hp (by omega)
      · refine PubP.mk (fun a1 c1 G1 hg1 hp => W.mk ?_)
        (conv => whnf)
        refine FinP.mk ?_
        rw [if_neg hf, List.append_nil] at hx
        rw [← hx]
        exact hr.pub hp (by omega)
end Go.Proofs.Ytcmhpndhloplpaa
