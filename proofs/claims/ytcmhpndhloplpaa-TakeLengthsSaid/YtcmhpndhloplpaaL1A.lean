/- Readings; the functions of layer 1 that only compute. -/
import Derived.Test.YtcmhpndhloplpaaIr1
import Derived.Test.YtcmhpndhloplpaaPalT
namespace Go.Proofs.Ytcmhpndhloplpaa
open Go.Pal

structure Span where
  fr : Int
  to : Int
deriving DecidableEq, Repr
structure Sit where
  len : Int
  ps : List Span
  long : Int
  short : Int
deriving DecidableEq, Repr
structure Rep where
  lo : Int
  hi : Int
  rest : Int
deriving DecidableEq, Repr
structure Off where
  crew : List Rep
  due : Int
  delay : Int
deriving DecidableEq, Repr

def spanE : El Span := ⟨2, fun p => [I p.fr, I p.to], fun {x y} h => by cases x; cases y; simp at h; simp [h], fun _ => rfl, fun _ v hv => by simp at hv; rcases hv with rfl | rfl <;> rfl⟩
def repE : El Rep := ⟨3, fun p => [I p.lo, I p.hi, I p.rest], fun {x y} h => by cases x; cases y; simp at h; simp [h], fun _ => rfl, fun _ v hv => by simp at hv; rcases hv with rfl | rfl | rfl <;> rfl⟩
def intE : El Int := ⟨1, fun p => [I p], fun {x y} h => by simp at h; exact h, fun _ => rfl, fun _ v hv => by simp at hv; rw [hv]; rfl⟩

def SitV (G : Hp) (v : Value) (s : Sit) : Prop := ∃ w, v = .agg #[I s.len, w, I s.long, I s.short] ∧ SlV spanE G w s.ps
def sitRd : Rd Sit := ⟨SitV, fun {_ _ x y} ⟨w, h, h1⟩ ⟨w', h', h1'⟩ => by
    subst h; simp at h'; obtain ⟨e1, e2, e3, e4⟩ := h'; subst e2; have := h1.uniq h1'; cases x; cases y; simp_all, fun hg ⟨w, h, h1⟩ => ⟨w, h, h1.grow hg⟩⟩
def OffV (G : Hp) (v : Value) (s : Off) : Prop := ∃ w, v = .agg #[w, I s.due, I s.delay] ∧ SlV repE G w s.crew
def offRd : Rd Off := ⟨OffV, fun {_ _ x y} ⟨w, h, h1⟩ ⟨w', h', h1'⟩ => by
    subst h; simp at h'; obtain ⟨e1, e2, e3⟩ := h'; subst e1; have := h1.uniq h1'; cases x; cases y; simp_all, fun hg ⟨w, h, h1⟩ => ⟨w, h, h1.grow hg⟩⟩

/-! ### In, within, long, has -/
def inF (n lo hi : Int) : Bool := decide (lo ≤ n ∧ n ≤ hi)
def inS : PSpec := .fn (fun args _ => ∃ n lo hi, args = [I n, I lo, I hi]) (fun args => match args with | [.int _ n, .int _ lo, .int _ hi] => .bool (inF n lo hi) | _ => undef)
set_option maxRecDepth 100000
theorem in36 : Sound Try.prog 36 id inS := by
  refine comp36.fn (Tab.nil _) (fun args G h => ?_) (fun args G h => ?_)
  · obtain ⟨n, lo, hi, rfl⟩ := h; simp
  · obtain ⟨n, lo, hi, rfl⟩ := h
    (conv => whnf)
    repeat' (first | (refine IteP.mk (fun _ => W.mk ?_) (fun _ => W.mk ?_) <;> (conv => whnf)) | (refine OblP.mk ?_ (W.mk ?_); (first | trivial | omega | (simp only [inR]; omega) | exact Nat.le_of_ble_eq_true (by rfl) | exact SlR.some (by assumption) (by omega)); (conv => whnf)) | (refine ForkP.mk (fun _ => W.mk ?_) (fun _ => W.mk ?_) <;> (conv => whnf)) | (refine RdP.at (by assumption) (by rfl) (W.mk ?_); (conv => whnf)) | (refine RdP.sub (by assumption) (by rfl) (W.mk ?_); (conv => whnf)) | (refine RdP.sub2 (by assumption) (by rfl) (W.mk ?_); (conv => whnf)) | (refine RdP.sub3 (by assumption) (by rfl) (W.mk ?_); (conv => whnf)) | (refine FinP.mk ?_))
    all_goals (refine congrArg Value.bool ?_; simp [inF, *])
theorem in37 : Sound Try.prog 37 id inS := by
  refine comp37.fn (Tab.nil _) (fun args G h => ?_) (fun args G h => ?_)
  · obtain ⟨n, lo, hi, rfl⟩ := h; simp
  · obtain ⟨n, lo, hi, rfl⟩ := h
    (conv => whnf)
    repeat' (first | (refine IteP.mk (fun _ => W.mk ?_) (fun _ => W.mk ?_) <;> (conv => whnf)) | (refine OblP.mk ?_ (W.mk ?_); (first | trivial | omega | (simp only [inR]; omega) | exact Nat.le_of_ble_eq_true (by rfl) | exact SlR.some (by assumption) (by omega)); (conv => whnf)) | (refine ForkP.mk (fun _ => W.mk ?_) (fun _ => W.mk ?_) <;> (conv => whnf)) | (refine RdP.at (by assumption) (by rfl) (W.mk ?_); (conv => whnf)) | (refine RdP.sub (by assumption) (by rfl) (W.mk ?_); (conv => whnf)) | (refine RdP.sub2 (by assumption) (by rfl) (W.mk ?_); (conv => whnf)) | (refine RdP.sub3 (by assumption) (by rfl) (W.mk ?_); (conv => whnf)) | (refine FinP.mk ?_))
    all_goals (refine congrArg Value.bool ?_; simp [inF, *])
def longS : PSpec := .fn (fun args _ => ∃ a b : Int, args = [.agg #[I a, I b]] ∧ inR .i64 (b - a)) (fun args => match args with | [v] => (match lst v with | [.int _ a, .int _ b] => I (b - a) | _ => undef) | _ => undef)
theorem long61 : Sound Try.prog 61 id longS := by
  refine comp61.fn (Tab.nil _) (fun args G h => ?_) (fun args G h => ?_)
  · obtain ⟨a, b, rfl, _⟩ := h; simp
  · obtain ⟨a, b, rfl, hb⟩ := h
    simp only [inR] at hb
    (conv => whnf)
    repeat' (first | (refine IteP.mk (fun _ => W.mk ?_) (fun _ => W.mk ?_) <;> (conv => whnf)) | (refine OblP.mk ?_ (W.mk ?_); (first | trivial | omega | (simp only [inR]; omega) | exact Nat.le_of_ble_eq_true (by rfl) | exact SlR.some (by assumption) (by omega)); (conv => whnf)) | (refine ForkP.mk (fun _ => W.mk ?_) (fun _ => W.mk ?_) <;> (conv => whnf)) | (refine RdP.at (by assumption) (by rfl) (W.mk ?_); (conv => whnf)) | (refine RdP.sub (by assumption) (by rfl) (W.mk ?_); (conv => whnf)) | (refine RdP.sub2 (by assumption) (by rfl) (W.mk ?_); (conv => whnf)) | (refine RdP.sub3 (by assumption) (by rfl) (W.mk ?_); (conv => whnf)) | (refine FinP.mk ?_))
    all_goals rfl
def hasF (a b n : Int) : Bool := decide (a ≤ n ∧ n < b)
def hasS : PSpec := .fn (fun args _ => ∃ a b n : Int, args = [.agg #[I a, I b], I n]) (fun args => match args with | [v, .int _ n] => (match lst v with | [.int _ a, .int _ b] => .bool (hasF a b n) | _ => undef) | _ => undef)
theorem has40 : Sound Try.prog 40 id hasS := by
  refine comp40.fn (Tab.nil _) (fun args G h => ?_) (fun args G h => ?_)
  · obtain ⟨a, b, n, rfl⟩ := h; simp
  · obtain ⟨a, b, n, rfl⟩ := h
    (conv => whnf)
    repeat' (first | (refine IteP.mk (fun _ => W.mk ?_) (fun _ => W.mk ?_) <;> (conv => whnf)) | (refine OblP.mk ?_ (W.mk ?_); (first | trivial | omega | (simp only [inR]; omega) | exact Nat.le_of_ble_eq_true (by rfl) | exact SlR.some (by assumption) (by omega)); (conv => whnf)) | (refine ForkP.mk (fun _ => W.mk ?_) (fun _ => W.mk ?_) <;> (conv => whnf)) | (refine RdP.at (by assumption) (by rfl) (W.mk ?_); (conv => whnf)) | (refine RdP.sub (by assumption) (by rfl) (W.mk ?_); (conv => whnf)) | (refine RdP.sub2 (by assumption) (by rfl) (W.mk ?_); (conv => whnf)) | (refine RdP.sub3 (by assumption) (by rfl) (W.mk ?_); (conv => whnf)) | (refine FinP.mk ?_))
    all_goals (refine congrArg Value.bool ?_; simp [hasF, *])
end Go.Proofs.Ytcmhpndhloplpaa
