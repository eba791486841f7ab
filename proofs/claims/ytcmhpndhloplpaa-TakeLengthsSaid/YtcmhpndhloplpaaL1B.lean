/- The reference's sittings: valid, paused, stretches, takes. -/
import Derived.Test.YtcmhpndhloplpaaL1A
namespace Go.Proofs.Ytcmhpndhloplpaa
open Go.Pal

set_option maxRecDepth 100000

def tabA : Tab Try.prog := Tab.cons 36 inS in36 body36 (Tab.cons 37 inS in37 body37 (Tab.cons 61 longS long61 body61 (Tab.cons 40 hasS has40 body40 (Tab.nil _))))

def goodSpan (last len : Int) (p : Span) : Bool := !(p.fr ≤ last || p.fr < 0 || p.fr ≥ p.to || p.to > len)
def spansOk (len : Int) : Int → List Span → Bool
  | _, [] => true
  | last, p :: r => goodSpan last len p && spansOk len p.to r
def validF (s : Sit) : Bool := spansOk s.len (-1) s.ps && (inF s.len 1 36000 && (inF s.long 1 1200 && inF s.short 1 s.long))

theorem valid32 : Sound Try.prog 32 id (gsca (args1 sitRd fun _ => True) fun s v => v = .bool (validF s)) := by
  refine comp32.gsca tabA (fun args G s h => ?_) (fun args G s h => ?_)
  · obtain ⟨v, rfl, _⟩ := h; simp
  · obtain ⟨v, rfl, ⟨w, rfl, a, n, c, rfl, hl, hn⟩, _⟩ := h
    (conv => whnf)
    refine LoopP.of { α := Nat × Int, fr := fun x => [(1, .c (.ptr 0 0)), (3, .v (I x.2)), (4, .v (I x.1))], H := fun _ => [(0, .cells .anon [.val (I s.len), .val (.slice a n c), .val (I s.long), .val (I s.short)] 24)], ok := fun x _ => x.1 ≤ s.ps.length ∧ spansOk s.len (-1) s.ps = spansOk s.len x.2 (s.ps.drop x.1), m := fun x => s.ps.length - x.1 }
      (0, -1) (HeadP.of [] ⟨rfl, rfl, rfl, trivial⟩ ⟨rfl, trivial⟩) ⟨Nat.zero_le _, rfl⟩ (fun _ => ⟨rfl, rfl⟩) (fun x G' hG hx => W.mk ?_)
    obtain ⟨i, last⟩ := x
    obtain ⟨hi, hx⟩ := hx
    simp only at hi hx
    replace hl := SlR.grow (G := G) (G' := G') (fun _ _ h => h) hl hG
    have hlen := hl.len
    (conv => whnf)
    refine IteP.mk (fun hlt => W.mk ?_) (fun hge => W.mk ?_) <;> (conv => whnf)
    · have hlt : i < s.ps.length := by omega
      have hc := hl.el hlt
      rw [List.drop_eq_getElem_cons hlt] at hx
      repeat' (first | (refine IteP.mk (fun _ => W.mk ?_) (fun _ => W.mk ?_) <;> (conv => whnf)) | (refine OblP.mk ?_ (W.mk ?_); (first | trivial | omega | (simp only [inR]; omega) | exact Nat.le_of_ble_eq_true (by rfl) | exact SlR.some (by assumption) (by omega)); (conv => whnf)) | (refine ForkP.mk (fun _ => W.mk ?_) (fun _ => W.mk ?_) <;> (conv => whnf)) | (refine RdP.at (by assumption) (by rfl) (W.mk ?_); (conv => whnf)) | (refine RdP.sub (by assumption) (by rfl) (W.mk ?_); (conv => whnf)) | (refine RdP.sub2 (by assumption) (by rfl) (W.mk ?_); (conv => whnf)) | (refine RdP.sub3 (by assumption) (by rfl) (W.mk ?_); (conv => whnf)) | (refine FinP.mk ?_))
      all_goals first
        | (refine congrArg Value.bool ?_; simp only [validF, hx, spansOk, goodSpan]; simp [*]; done)
        | skip
      · refine RoundP.of (i + 1, s.ps[i].to) (HeadP.of [] ⟨rfl, rfl, rfl, trivial⟩ ⟨rfl, trivial⟩) ⟨by simp only; omega, ?_⟩ (by simp only; omega)
        simp only [hx, spansOk, goodSpan]
        simp [*]
    · have : i = s.ps.length := by omega
      subst this
      simp only [List.drop_length, spansOk] at hx
      repeat' (first | (refine OblP.mk ⟨_, _, _, rfl⟩ (W.mk ?_); (conv => whnf)) | (refine ForkP.mk (fun _ => W.mk ?_) (fun _ => W.mk ?_) <;> (conv => whnf)) | (refine FinP.mk ?_))
      all_goals (refine congrArg Value.bool ?_; simp only [validF, hx]; simp [*])
end Go.Proofs.Ytcmhpndhloplpaa
