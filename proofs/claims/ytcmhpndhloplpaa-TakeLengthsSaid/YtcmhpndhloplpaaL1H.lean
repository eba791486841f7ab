/- The program's sittings: valid, checked. -/
import Derived.Test.YtcmhpndhloplpaaL1G
namespace Go.Proofs.Ytcmhpndhloplpaa
open Go.Pal

set_option maxRecDepth 100000

def tabG : Tab Try.prog := Tab.cons 52 _ takes52 body52 tabF
/-- No length overflows. -/
def Calm (s : Sit) : Prop := ∀ p ∈ s.ps, inR .i64 (p.to - p.fr)
theorem valid_calm {s : Sit} (h : validF s = true) : Calm s := fun p hp => by
  obtain ⟨h1, h2, _⟩ := validF_iff.1 h
  have := spansOk_mem h1 p hp
  simp only [inR]; omega

theorem valid51 : Sound Try.prog 51 id (gsca (args1 sitRd fun s => Calm s) fun s v => v = .bool (validF s)) := by
  refine comp51.gsca tabG (fun args G s h => ?_) (fun args G s h => ?_)
  · obtain ⟨v, rfl, _⟩ := h; simp
  · obtain ⟨v, rfl, ⟨w, rfl, a, n, c, rfl, hl, hn⟩, hcalm⟩ := h
    have hlen := hl.len
    (conv => whnf)
    refine LoopP.of { α := Nat × Int, fr := fun x => [(1, .c (.ptr 0 0)), (3, .v (I x.2)), (4, .v (.bool true)), (8, .v (.slice a n c)), (9, .v (I n)), (10, .v (I x.1))], H := fun _ => [(0, .cells .anon [.val (I s.len), .val (.slice a n c), .val (I s.long), .val (I s.short)] 32)], ok := fun x _ => x.1 ≤ s.ps.length ∧ -1 ≤ x.2 ∧ spansOk s.len (-1) s.ps = spansOk s.len x.2 (s.ps.drop x.1), m := fun x => s.ps.length - x.1 }
      (0, -1) (HeadP.of [] ⟨rfl, rfl, rfl, rfl, rfl, rfl, trivial⟩ ⟨rfl, trivial⟩) ⟨Nat.zero_le _, by simp, rfl⟩ (fun _ => ⟨rfl, rfl⟩) (fun x G' hG hx => W.mk ?_)
    obtain ⟨i, last⟩ := x
    obtain ⟨hi, hla, hx⟩ := hx
    simp only at hi hla hx
    replace hl := SlR.grow (G := G) (G' := G') (fun _ _ h => h) hl hG
    dsimp only
    (conv => whnf)
    refine IteP.mk (fun hlt => W.mk ?_) (fun hge => W.mk ?_) <;> (conv => whnf)
    · have hlt : i < s.ps.length := by omega
      have hc := hl.el hlt
      have hcp := hcalm _ (List.getElem_mem hlt)
      rw [List.drop_eq_getElem_cons hlt] at hx
      generalize s.ps[i] = p at hc hcp hx
      have hgs : goodSpan last s.len p = (decide (last < p.fr) && (decide (0 < p.to - p.fr) && decide (p.to ≤ s.len))) := by
        rw [Bool.eq_iff_iff, goodSpan_iff]; simp only [Bool.and_eq_true, decide_eq_true_eq]; omega
      rw [spansOk, hgs] at hx
      repeat' (first | (refine IteP.mk (fun _ => W.mk ?_) (fun _ => W.mk ?_) <;> (conv => whnf)) | (refine OblP.mk ⟨_, _, rfl, hcp⟩ (W.mk ?_); (conv => whnf)) | (refine OblP.mk ?_ (W.mk ?_); (first | trivial | omega | (simp only [inR]; omega) | exact Nat.le_of_ble_eq_true (by rfl) | exact SlR.some (by assumption) (by omega)); (conv => whnf)) | (first | (refine RdP.at (by assumption) (by rfl) (W.mk ?_); (conv => whnf)) | (refine RdP.sub (by assumption) (by rfl) (W.mk ?_); (conv => whnf)) | (refine RdP.sub2 (by assumption) (by rfl) (W.mk ?_); (conv => whnf)) | (refine RdP.sub3 (by assumption) (by rfl) (W.mk ?_); (conv => whnf))))
      rotate_right
      · have hb : (decide (last < p.fr) && (decide (0 < p.to - p.fr) && decide (p.to ≤ s.len))) = true := by simp only [Bool.and_eq_true, decide_eq_true_eq]; omega
        exact RoundP.of (i + 1, p.to) (HeadP.of [] ⟨rfl, rfl, rfl, rfl, rfl, rfl, trivial⟩ ⟨rfl, trivial⟩) ⟨by simp only; omega, by simp only [inR] at hcp; simp only; omega, by rw [hx, hb]; rfl⟩ (by simp only; omega)
      all_goals
        have hb : (decide (last < p.fr) && (decide (0 < p.to - p.fr) && decide (p.to ≤ s.len))) = false := by simp only [Bool.and_eq_false_iff, decide_eq_false_iff_not]; omega
        refine FinP.mk ?_
        show Value.bool false = .bool (validF s)
        rw [validF, hx, hb]; rfl
    · have : i = s.ps.length := by omega
      subst this
      simp only [List.drop_length, spansOk] at hx
      repeat' (first | (refine OblP.mk ⟨_, _, _, rfl⟩ (W.mk ?_); (conv => whnf)) | (refine ForkP.mk (fun _ => W.mk ?_) (fun _ => W.mk ?_) <;> (conv => whnf)) | (refine FinP.mk ?_))
      all_goals (refine congrArg Value.bool ?_; simp only [validF, hx]; simp [*])

/-- A result with an error. -/
def ResV (G : Hp) (v : Value) (e : Int) (l : List Span) : Prop := ∃ w, v = .tuple #[w, I e] ∧ (if e = 0 then SlV spanE G w l else w = .slice none 0 0)
theorem ResV.grow {G G' : Hp} {v : Value} {e : Int} {l : List Span} (hg : Grow G G') (h : ResV G v e l) : ResV G' v e l := by
  obtain ⟨w, h1, h2⟩ := h
  refine ⟨w, h1, ?_⟩
  split at h2
  · rename_i he; rw [if_pos he]; exact h2.grow hg
  · rename_i he; rw [if_neg he]; exact h2
def tabH : Tab Try.prog := Tab.cons 51 _ valid51 body51 tabG
theorem check35 : Sound Try.prog 35 id (grel (args1 sitRd fun s => Calm s) fun s v G => ResV G v (faultF s) (takesF s)) := by
  refine comp35.grel tabH (ok1 _ _) (fun args G s h => ?_) (fun x v G G' hg h => h.grow hg) (fun args G s h => ?_)
  · obtain ⟨v, rfl, _⟩ := h; simp
  · obtain ⟨v, rfl, ⟨w, rfl, a, n, c, rfl, hl, hn⟩, hcalm⟩ := h
    (conv => whnf)
    refine ScaP.g (ok1 sitRd fun s => Calm s) (x := s) ⟨_, rfl, ⟨_, rfl, a, n, c, rfl, hl, hn⟩, hcalm⟩ (fun v hv => W.mk ?_)
    subst hv
    (conv => whnf)
    refine ForkP.mk (fun hf => W.mk ?_) (fun hf => W.mk ?_) <;> (conv => whnf)
    · refine RelP.g (ok1 sitRd fun s => validF s = true) (x := s) ⟨_, rfl, ⟨_, rfl, a, n, c, rfl, hl, hn⟩, hf⟩ (Grow.refl _) (fun v G1 hg1 hq => W.mk ?_)
      obtain ⟨a1, n1, c1, rfl, hl1, hn1⟩ := hq
      have := hl1.len
      (conv => whnf)
      refine IteP.mk (fun h => W.mk ?_) (fun h => W.mk ?_) <;> (conv => whnf) <;> refine FinP.mk ?_
      · have hf3 : faultF s = 3 := by rw [faultF, if_pos hf, if_pos (by omega)]
        rw [hf3]; exact ⟨_, rfl, rfl⟩
      · have hf3 : faultF s = 0 := by rw [faultF, if_pos hf, if_neg (by omega)]
        rw [hf3]; exact ⟨_, rfl, a1, n1, c1, rfl, hl1, hn1⟩
    · refine FinP.mk ?_
      have hf3 : faultF s = 1 := by rw [faultF, if_neg (by simp [hf])]
      rw [hf3]; exact ⟨_, rfl, rfl⟩
def tabI : Tab Try.prog := Tab.cons 35 _ check35 body35 tabH
theorem takes12 : Sound Try.prog 12 id (grel (args1 sitRd fun s => Calm s) fun s v G => ResV G v (faultF s) (takesF s)) := by
  refine comp12.grel tabI (ok1 _ _) (fun args G s h => ?_) (fun x v G G' hg h => h.grow hg) (fun args G s h => ?_)
  · obtain ⟨v, rfl, _⟩ := h; simp
  · obtain ⟨v, rfl, ⟨w, rfl, a, n, c, rfl, hl, hn⟩, hcalm⟩ := h
    (conv => whnf)
    refine RelP.g (ok1 sitRd fun s => Calm s) (x := s) ⟨_, rfl, ⟨_, rfl, a, n, c, rfl, hl, hn⟩, hcalm⟩ (Grow.refl _) (fun v G1 hg1 hq => W.mk ?_)
    obtain ⟨w, rfl, hq⟩ := hq
    split at hq
    · rename_i he
      obtain ⟨a1, n1, c1, rfl, hl1, hn1⟩ := hq
      (conv => whnf)
      exact FinP.mk ⟨_, rfl, by rw [if_pos he]; exact ⟨a1, n1, c1, rfl, hl1, hn1⟩⟩
    · rename_i he
      subst hq
      (conv => whnf)
      exact FinP.mk ⟨_, rfl, by rw [if_neg he]⟩
theorem check30 : Sound Try.prog 30 id (gsca (args1 sitRd fun s => Calm s) fun s v => v = I (faultF s)) := by
  refine comp30.gsca tabI (fun args G s h => ?_) (fun args G s h => ?_)
  · obtain ⟨v, rfl, _⟩ := h; simp
  · obtain ⟨v, rfl, ⟨w, rfl, a, n, c, rfl, hl, hn⟩, hcalm⟩ := h
    (conv => whnf)
    refine RelP.g (ok1 sitRd fun s => Calm s) (x := s) ⟨_, rfl, ⟨_, rfl, a, n, c, rfl, hl, hn⟩, hcalm⟩ (Grow.refl _) (fun v G1 hg1 hq => W.mk ?_)
    obtain ⟨w, rfl, hq⟩ := hq
    split at hq
    · obtain ⟨a1, n1, c1, rfl, hl1, hn1⟩ := hq
      (conv => whnf)
      exact FinP.mk rfl
    · subst hq
      (conv => whnf)
      exact FinP.mk rfl
end Go.Proofs.Ytcmhpndhloplpaa
