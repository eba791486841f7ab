/- Layer 9: readings; the reference's functions on lists; which orders hold, which words are hidden. Layer 9: which orders hold, which words are hidden, what is shown (the reference). Layer 9: what is shown, and the view (the reference). Layer 9: the error of a report (the reference). Layer 9: whether some orders hide as much (the reference); lists. Layer 9: the program's small functions; the reading of a reader before a report. -/
import Derived.Test.YtpcpjmplgladmaaMD
import Derived.Test.YtpcpjmplgladmaaMC
import Derived.Laws.Entries
import Derived.Test.YtpcpjmplgladmaaME
set_option linter.unusedSimpArgs false
set_option linter.unusedVariables false
namespace Go.Proofs.Ytpcpjmplgladmaa
open Go.Pal
set_option maxRecDepth 100000
def intE : El Int := ⟨1, fun p => [I p], fun {x y} h => by simp at h; exact h, fun _ => rfl, fun _ v hv => by simp at hv; rw [hv]; rfl⟩
/-- An order. -/
structure Od where
  f : Int
  t : Int
  k : Int
  u : Int
  deriving DecidableEq
def odE : El Od := ⟨4, fun o => [I o.f, I o.t, I o.k, I o.u], fun {x y} h => by cases x; cases y; simp at h; simp [h], fun _ => rfl, fun _ v hv => by simp at hv; rcases hv with rfl | rfl | rfl | rfl <;> rfl⟩
def odRd : Rd Od := ⟨fun _ v o => v = .agg #[I o.f, I o.t, I o.k, I o.u], fun {_ _ x y} h h' => by rw [h] at h'; cases x; cases y; simp at h'; simp [h'], fun {_ _ _ _} _ h => h⟩
/-- A word. -/
structure Wd where
  text : ByteArray
  heads : List Int
def WdR (G : Hp) (cs : List Value) (w : Wd) : Prop := ∃ h, cs = [.string w.text, h] ∧ SlV intE G h w.heads
theorem WdR.uniq {G : Hp} {cs : List Value} {x y : Wd} (h : WdR G cs x) (h' : WdR G cs y) : x = y := by
  obtain ⟨a, e, h1⟩ := h
  obtain ⟨b, e', h2⟩ := h'
  rw [e] at e'
  simp only [List.cons.injEq, Value.string.injEq, and_true] at e'
  obtain ⟨e1, e2⟩ := e'
  subst e2
  have := h1.uniq h2
  cases x; cases y; simp_all
theorem WdR.grow {G G' : Hp} (hg : Grow G G') {cs : List Value} {x : Wd} (h : WdR G cs x) : WdR G' cs x := by
  obtain ⟨a, e, h1⟩ := h
  exact ⟨a, e, h1.grow hg⟩
/-- A report. -/
structure Rp where
  words : List Wd
  orders : List Od
  cols : Int
def WdsV (G : Hp) (v : Value) (ws : List Wd) : Prop := ∃ a n c, v = .slice a n c ∧ SlR 2 WdR G a n c ws ∧ n ≤ 140737488355328
theorem WdsV.grow {G G' : Hp} (hg : Grow G G') {v : Value} {ws : List Wd} (h : WdsV G v ws) : WdsV G' v ws := by
  obtain ⟨a, n, c, e, h1, h2⟩ := h
  exact ⟨a, n, c, e, SlR.grow (fun _ _ h => h.grow hg) h1 hg, h2⟩
structure RpC (G : Hp) (w o : Value) (r : Rp) : Prop where
  w : WdsV G w r.words
  o : SlV odE G o r.orders
theorem RpC.grow {G G' : Hp} (hg : Grow G G') {w o : Value} {r : Rp} (h : RpC G w o r) : RpC G' w o r := ⟨h.w.grow hg, h.o.grow hg⟩
def RpV (G : Hp) (v : Value) (r : Rp) : Prop := ∃ w o, v = .agg #[w, o, I r.cols] ∧ RpC G w o r
def rpRd : Rd Rp := ⟨RpV, fun {_ _ x y} ⟨w, o, h, h1⟩ ⟨w', o', h', h1'⟩ => by
    subst h
    simp only [Value.agg.injEq, Array.mk.injEq, List.cons.injEq, Value.int.injEq, true_and, and_true] at h'
    obtain ⟨e1, e2, e3⟩ := h'
    subst e1; subst e2
    obtain ⟨a, n, c, rfl, k1, _⟩ := h1.w
    obtain ⟨a', n', c', e, k2, _⟩ := h1'.w
    cases e
    have m1 := SlR.uniq (fun cs x y h h' => WdR.uniq h h') k1 k2
    have m2 := h1.o.uniq h1'.o
    cases x; cases y; simp_all, fun hg ⟨w, o, h, h1⟩ => ⟨w, o, h, h1.grow hg⟩⟩
/-- A reader. -/
structure Rx where
  year : Int
  may : List Int
def RxV (G : Hp) (v : Value) (x : Rx) : Prop := ∃ m, v = .agg #[I x.year, m] ∧ SlV intE G m x.may
def rxRd : Rd Rx := ⟨RxV, fun {_ _ x y} ⟨m, h, h1⟩ ⟨m', h', h1'⟩ => by
    subst h
    simp only [Value.agg.injEq, Array.mk.injEq, List.cons.injEq, Value.int.injEq, true_and, and_true] at h'
    obtain ⟨e1, e2⟩ := h'
    subst e2
    have := h1.uniq h1'
    cases x; cases y; simp_all, fun hg ⟨m, h, h1⟩ => ⟨m, h, h1.grow hg⟩⟩

/-! ### In, Has, Rising -/
def inF (n lo hi : Int) : Bool := decide (lo ≤ n ∧ n ≤ hi)
def inS : PSpec := .fn (fun args _ => ∃ n lo hi, args = [I n, I lo, I hi]) (fun args => match args with | [.int _ n, .int _ lo, .int _ hi] => .bool (inF n lo hi) | _ => undef)
theorem in53 : Sound Try.prog 53 id inS := by
  refine comp53.fn (Tab.nil _) (fun args G h => ?_) (fun args G h => ?_)
  · obtain ⟨n, lo, hi, rfl⟩ := h; simp
  · obtain ⟨n, lo, hi, rfl⟩ := h
    (conv => whnf)
    repeat' (first | (refine IteP.mk (fun _ => W.mk ?_) (fun _ => W.mk ?_) <;> (conv => whnf)) | (refine OblP.mk ?_ (W.mk ?_); (first | trivial | omega | (simp only [inR]; omega) | exact Nat.le_of_ble_eq_true (by rfl) | exact SlR.some (by assumption) (by omega)); (conv => whnf)) | (refine ForkP.mk (fun _ => W.mk ?_) (fun _ => W.mk ?_) <;> (conv => whnf)) | (refine RdP.at (by assumption) (by rfl) (W.mk ?_); (conv => whnf)) | (refine RdP.sub (by assumption) (by rfl) (W.mk ?_); (conv => whnf)) | (refine RdP.sub2 (by assumption) (by rfl) (W.mk ?_); (conv => whnf)) | (refine RdP.sub3 (by assumption) (by rfl) (W.mk ?_); (conv => whnf)) | (refine FinP.mk ?_))
    all_goals (refine congrArg Value.bool ?_; simp [inF, *])
theorem has24 : Sound Try.prog 24 id (gsca (args2 (slRd intE) intRd fun _ _ => True) fun x v => v = .bool (x.1.contains x.2)) := by
  refine comp24.gsca (Tab.nil _) (fun args G s h => ?_) (fun args G x h => ?_)
  · obtain ⟨v, w, rfl, _⟩ := h; simp
  · obtain ⟨l, q⟩ := x
    obtain ⟨u, v, rfl, ⟨a, n, c, rfl, hl, hn⟩, rfl, _⟩ := h
    dsimp only at hl
    have hlen := hl.len
    dsimp only
    (conv => whnf)
    refine LoopP.of { α := Nat, fr := fun x => [(0, .v (.slice a n c)), (1, .v (I q)), (5, .v (I x))], H := fun _ => [], ok := fun i _ => i ≤ l.length ∧ (l.drop i).contains q = l.contains q, m := fun x => l.length - x }
      0 (HeadP.of [] ⟨rfl, rfl, rfl, trivial⟩ trivial) ⟨Nat.zero_le _, rfl⟩ (fun _ => ⟨rfl, rfl⟩) (fun (i : Nat) G' hG hx => W.mk ?_)
    obtain ⟨hi, hx⟩ := hx
    replace hl := SlR.grow (G := G) (G' := G') (fun _ _ h => h) hl hG
    dsimp only
    (conv => whnf)
    refine IteP.mk (fun hlt => W.mk ?_) (fun hge => W.mk ?_) <;> (conv => whnf)
    · have hlt : i < l.length := by omega
      have hc := hl.el hlt
      rw [List.drop_eq_getElem_cons hlt, List.contains_cons] at hx
      repeat' (first | (refine OblP.mk ?_ (W.mk ?_); (first | trivial | omega | (simp only [inR]; omega) | exact Nat.le_of_ble_eq_true (by rfl) | exact SlR.some (by assumption) (by omega)); (conv => whnf)) | (first | (refine RdP.at (by assumption) (by rfl) (W.mk ?_); (conv => whnf)) | (refine RdP.sub (by assumption) (by rfl) (W.mk ?_); (conv => whnf)) | (refine RdP.sub2 (by assumption) (by rfl) (W.mk ?_); (conv => whnf)) | (refine RdP.sub3 (by assumption) (by rfl) (W.mk ?_); (conv => whnf))))
      refine IteP.mk (fun hq => W.mk ?_) (fun hq => W.mk ?_) <;> (conv => whnf)
      · refine FinP.mk ?_
        refine congrArg Value.bool ?_
        rw [← hx, ← hq]; simp
      · (refine OblP.mk ?_ (W.mk ?_); (first | trivial | omega | (simp only [inR]; omega) | exact Nat.le_of_ble_eq_true (by rfl) | exact SlR.some (by assumption) (by omega)); (conv => whnf))
        refine RoundP.of (i + 1) (HeadP.of [] ⟨rfl, rfl, rfl, trivial⟩ trivial) ⟨hlt, ?_⟩ (by simp only; omega)
        rw [← hx]
        have : (q == l[i]) = false := by simp only [beq_eq_false_iff_ne]; exact fun e => hq e.symm
        rw [this, Bool.false_or]
    · have : i = l.length := by omega
      subst this
      rw [List.drop_length] at hx
      refine FinP.mk ?_
      refine congrArg Value.bool ?_
      rw [← hx]; rfl
def risAt (most : Int) (l : List Int) (i : Nat) : Bool := inF (l.getD i 0) 0 most && (decide (i = 0) || decide (l.getD (i - 1) 0 < l.getD i 0))
def risM (most : Int) (l : List Int) : Bool := (List.range l.length).all (risAt most l)
theorem risM_true {most : Int} {l : List Int} (h : ∀ i, i < l.length → risAt most l i = true) : risM most l = true := by
  simp only [risM, List.all_eq_true, List.mem_range]; exact h
theorem risM_false {most : Int} {l : List Int} {i : Nat} (hi : i < l.length) (h : risAt most l i = false) : risM most l = false := by
  cases hr : risM most l with
  | false => rfl
  | true =>
    simp only [risM, List.all_eq_true, List.mem_range] at hr
    rw [hr i hi] at h; cases h
theorem gd0 {l : List Int} {k : Nat} (h : k < l.length) : l.getD k 0 = l[k] := by simp [h]
def tabA : Tab Try.prog := Tab.cons 53 _ in53 body53 (Tab.cons 24 _ has24 body24 (Tab.nil _))
theorem ris60 : Sound Try.prog 60 id (gsca (args2 (slRd intE) intRd fun _ _ => True) fun x v => v = .bool (risM x.2 x.1)) := by
  refine comp60.gsca tabA (fun args G s h => ?_) (fun args G x h => ?_)
  · obtain ⟨v, w, rfl, _⟩ := h; simp
  · obtain ⟨l, q⟩ := x
    obtain ⟨u, v, rfl, ⟨a, n, c, rfl, hl, hn⟩, rfl, _⟩ := h
    dsimp only at hl
    have hlen := hl.len
    dsimp only
    (conv => whnf)
    refine LoopP.of { α := Nat, fr := fun x => [(0, .v (.slice a n c)), (1, .v (I q)), (5, .v (I x))], H := fun _ => [], ok := fun i _ => i ≤ l.length ∧ ∀ k, k < i → risAt q l k = true, m := fun x => l.length - x }
      0 (HeadP.of [] ⟨rfl, rfl, rfl, trivial⟩ trivial) ⟨Nat.zero_le _, fun k hk => by omega⟩ (fun _ => ⟨rfl, rfl⟩) (fun (i : Nat) G' hG hx => W.mk ?_)
    obtain ⟨hi, hx⟩ := hx
    replace hl := SlR.grow (G := G) (G' := G') (fun _ _ h => h) hl hG
    dsimp only
    (conv => whnf)
    refine IteP.mk (fun hlt => W.mk ?_) (fun hge => W.mk ?_) <;> (conv => whnf)
    · have hlt : i < l.length := by omega
      have hc := hl.el hlt
      have hat : risAt q l i = (inF (l.getD i 0) 0 q && (decide (i = 0) || decide (l.getD (i - 1) 0 < l.getD i 0))) := rfl
      have fin : ∀ b, risAt q l i = b → b = true → ∀ k, k < i + 1 → risAt q l k = true := fun b h1 h2 k hk => by
        rcases Nat.lt_succ_iff_lt_or_eq.1 hk with h | rfl
        · exact hx k h
        · rw [h1, h2]
      rw [gd0 hlt] at hat
      repeat' (first | (refine OblP.mk ?_ (W.mk ?_); (first | trivial | omega | (simp only [inR]; omega) | exact Nat.le_of_ble_eq_true (by rfl) | exact SlR.some (by assumption) (by omega)); (conv => whnf)) | (first | (refine RdP.at (by assumption) (by rfl) (W.mk ?_); (conv => whnf)) | (refine RdP.sub (by assumption) (by rfl) (W.mk ?_); (conv => whnf)) | (refine RdP.sub2 (by assumption) (by rfl) (W.mk ?_); (conv => whnf)) | (refine RdP.sub3 (by assumption) (by rfl) (W.mk ?_); (conv => whnf))))
      refine OblP.mk ⟨_, _, _, rfl⟩ (W.mk ?_)
      (conv => whnf)
      refine ForkP.mk (fun hq => W.mk ?_) (fun hq => W.mk ?_) <;> (conv => whnf)
      · have hq : inF l[i] 0 q = true := hq
        rw [hq, Bool.true_and] at hat
        cases i with
        | zero =>
          repeat' (first | (refine IteP.mk (fun _ => W.mk ?_) (fun _ => W.mk ?_) <;> first | (exfalso; omega) | (conv => whnf)) | (refine OblP.mk ?_ (W.mk ?_); (first | trivial | omega | (simp only [inR]; omega) | exact Nat.le_of_ble_eq_true (by rfl) | exact SlR.some (by assumption) (by omega)); (conv => whnf)) | (first | (refine RdP.at (by assumption) (by rfl) (W.mk ?_); (conv => whnf)) | (refine RdP.sub (by assumption) (by rfl) (W.mk ?_); (conv => whnf)) | (refine RdP.sub2 (by assumption) (by rfl) (W.mk ?_); (conv => whnf)) | (refine RdP.sub3 (by assumption) (by rfl) (W.mk ?_); (conv => whnf))))
          refine RoundP.of 1 (HeadP.of [] ⟨rfl, rfl, rfl, trivial⟩ trivial) ⟨hlt, fin _ hat rfl⟩ (by simp only; omega)
        | succ k =>
          have hlk : k < l.length := by omega
          have hck := hl.el hlk
          rw [show k + 1 - 1 = k by omega, gd0 hlk] at hat
          have hck : CellsAt G' (ab a) (ao a + (((k + 1 : Nat) : Int) - 1).toNat * 1) (intE.f l[k]) := by
            rw [show (((k + 1 : Nat) : Int) - 1).toNat = k by omega]; exact hck
          refine IteP.mk (fun _ => W.mk ?_) (fun h => by exfalso; omega)
          (conv => whnf)
          repeat' (first | (refine OblP.mk ?_ (W.mk ?_); (first | trivial | omega | (simp only [inR]; omega) | exact Nat.le_of_ble_eq_true (by rfl) | exact SlR.some (by assumption) (by omega)); (conv => whnf)) | (first | (refine RdP.at (by assumption) (by rfl) (W.mk ?_); (conv => whnf)) | (refine RdP.sub (by assumption) (by rfl) (W.mk ?_); (conv => whnf)) | (refine RdP.sub2 (by assumption) (by rfl) (W.mk ?_); (conv => whnf)) | (refine RdP.sub3 (by assumption) (by rfl) (W.mk ?_); (conv => whnf))))
          generalize l[k] = p at hat ⊢
          generalize l[k + 1] = p2 at hat ⊢
          refine IteP.mk (fun h5 => W.mk ?_) (fun h5 => W.mk ?_) <;> (conv => whnf)
          · have h5 : p2 ≤ p := h5
            refine FinP.mk ?_
            refine congrArg Value.bool ?_
            refine (risM_false hlt ?_).symm
            rw [hat, decide_eq_false (by omega : ¬ k + 1 = 0), decide_eq_false (by omega : ¬ p < p2)]; rfl
          · have h5 : ¬ p2 ≤ p := h5
            repeat' (first | (refine OblP.mk ?_ (W.mk ?_); (first | trivial | omega | (simp only [inR]; omega) | exact Nat.le_of_ble_eq_true (by rfl) | exact SlR.some (by assumption) (by omega)); (conv => whnf)) | (first | (refine RdP.at (by assumption) (by rfl) (W.mk ?_); (conv => whnf)) | (refine RdP.sub (by assumption) (by rfl) (W.mk ?_); (conv => whnf)) | (refine RdP.sub2 (by assumption) (by rfl) (W.mk ?_); (conv => whnf)) | (refine RdP.sub3 (by assumption) (by rfl) (W.mk ?_); (conv => whnf))))
            refine RoundP.of (k + 2) (HeadP.of [] ⟨rfl, rfl, rfl, trivial⟩ trivial) ⟨hlt, fin _ hat ?_⟩ (by simp only; omega)
            rw [decide_eq_true (by omega : p < p2), Bool.or_true]
      · have hq : inF l[i] 0 q = false := hq
        rw [hq, Bool.false_and] at hat
        refine FinP.mk ?_
        refine congrArg Value.bool ?_
        exact (risM_false hlt hat).symm
    · have : i = l.length := by omega
      subst this
      refine FinP.mk ?_
      refine congrArg Value.bool ?_
      exact (risM_true hx).symm
end Go.Proofs.Ytpcpjmplgladmaa

namespace Go.Proofs.Ytpcpjmplgladmaa
open Go.Pal
set_option maxRecDepth 100000
def holdsF (o : Od) (x : Rx) : Bool := decide (x.year < o.u) && !x.may.contains o.k
theorem holds41 : Sound Try.prog 41 id (gsca (args2 odRd rxRd fun _ _ => True) fun p v => v = .bool (holdsF p.1 p.2)) := by
  refine comp41.gsca tabA (fun args G s h => ?_) (fun args G p h => ?_)
  · obtain ⟨v, w, rfl, _⟩ := h; simp
  · obtain ⟨o, x⟩ := p
    obtain ⟨u, v, rfl, rfl, ⟨m, rfl, hm⟩, _⟩ := h
    dsimp only at hm
    obtain ⟨a, n, c, rfl, hm1, hm2⟩ := hm
    dsimp only
    (conv => whnf)
    repeat' (first | (refine OblP.mk ?_ (W.mk ?_); (first | trivial | omega | (simp only [inR]; omega) | exact Nat.le_of_ble_eq_true (by rfl) | exact SlR.some (by assumption) (by omega)); (conv => whnf)) | (first | (refine RdP.at (by assumption) (by rfl) (W.mk ?_); (conv => whnf)) | (refine RdP.sub (by assumption) (by rfl) (W.mk ?_); (conv => whnf)) | (refine RdP.sub2 (by assumption) (by rfl) (W.mk ?_); (conv => whnf)) | (refine RdP.sub3 (by assumption) (by rfl) (W.mk ?_); (conv => whnf))))
    refine IteP.mk (fun h1 => W.mk ?_) (fun h1 => W.mk ?_) <;> (conv => whnf)
    · refine ScaP.g (ok2 (slRd intE) intRd fun _ _ => True) (x := (x.may, o.k)) ⟨_, _, rfl, ⟨_, _, _, rfl, hm1, hm2⟩, rfl, trivial⟩ (fun v hv => W.mk ?_)
      subst hv
      dsimp only
      (conv => whnf)
      refine ForkP.mk (fun hq => W.mk ?_) (fun hq => W.mk ?_) <;> (conv => whnf) <;> refine FinP.mk ?_ <;> (refine congrArg Value.bool ?_; rw [holdsF, decide_eq_true h1, hq]; rfl)
    · refine FinP.mk ?_
      refine congrArg Value.bool ?_
      rw [holdsF, decide_eq_false h1]; rfl
def hidO (x : Rx) (w : Int) (o : Od) : Bool := holdsF o x && inF w o.f (o.t - 1)
def hidF (r : Rp) (x : Rx) (w : Int) : Bool := r.orders.any (hidO x w)
def ordB (r : Rp) : Prop := ∀ o ∈ r.orders, 0 ≤ o.t ∧ o.t ≤ 1000
def tabB : Tab Try.prog := Tab.cons 41 _ holds41 body41 tabA
theorem hidden35 : Sound Try.prog 35 id (gsca (args3 rpRd rxRd intRd fun r _ _ => ordB r) fun p v => v = .bool (hidF p.1 p.2.1 p.2.2)) := by
  refine comp35.gsca tabB (fun args G s h => ?_) (fun args G p h => ?_)
  · obtain ⟨v, w, u, rfl, _⟩ := h; simp
  · obtain ⟨r, x, q⟩ := p
    obtain ⟨u, v, w, rfl, ⟨rw_, ro, rfl, hrc⟩, ⟨m, rfl, hm⟩, rfl, hb⟩ := h
    dsimp only at hrc hm hb
    obtain ⟨oa, on, oc, rfl, ho1, ho2⟩ := hrc.o
    obtain ⟨wa, wn, wc, rfl, hw1, hw2⟩ := hrc.w
    obtain ⟨ma, mn, mc, rfl, hm1, hm2⟩ := id hm
    have hol := ho1.len
    dsimp only
    (conv => whnf)
    refine LoopP.of { α := Nat, fr := fun i => [(2, .v (I q)), (3, .c (.ptr 0 0)), (4, .c (.ptr 1 0)), (7, .v (I i))], H := fun _ => [(0, .cells .anon [.val (.slice wa wn wc), .val (.slice oa on oc), .val (I r.cols)] 25), (1, .cells .anon [.val (I x.year), .val (.slice ma mn mc)] 28)], ok := fun i _ => i ≤ on ∧ (r.orders.drop i).any (hidO x q) = hidF r x q, m := fun i => on - i }
      0 (HeadP.of [] ⟨rfl, rfl, rfl, rfl, trivial⟩ ⟨rfl, rfl, trivial⟩) ⟨Nat.zero_le _, rfl⟩ (fun _ => ⟨rfl, rfl⟩) (fun (i : Nat) G' hG hx => W.mk ?_)
    obtain ⟨hi, hx⟩ := hx
    dsimp only
    (conv => whnf)
    refine IteP.mk (fun hlt => W.mk ?_) (fun hge => W.mk ?_) <;> (conv => whnf)
    · have hlt : i < r.orders.length := by omega
      have hc := (SlR.grow (G := G) (G' := G') (fun _ _ h => h) ho1 hG).el hlt
      have hob := hb _ (List.getElem_mem hlt)
      rw [List.drop_eq_getElem_cons hlt, List.any_cons] at hx
      generalize r.orders[i] = o at hc hob hx
      obtain ⟨f, t, k, y⟩ := o
      dsimp only at hob
      repeat' (first | (refine OblP.mk ?_ (W.mk ?_); (first | trivial | omega | (simp only [inR]; omega) | exact Nat.le_of_ble_eq_true (by rfl) | exact SlR.some (by assumption) (by omega)); (conv => whnf)) | (first | (refine RdP.at (by assumption) (by rfl) (W.mk ?_); (conv => whnf)) | (refine RdP.sub (by assumption) (by rfl) (W.mk ?_); (conv => whnf)) | (refine RdP.sub2 (by assumption) (by rfl) (W.mk ?_); (conv => whnf)) | (refine RdP.sub3 (by assumption) (by rfl) (W.mk ?_); (conv => whnf))))
      refine ScaP.g (ok2 odRd rxRd fun _ _ => True) (x := (⟨f, t, k, y⟩, x)) ⟨_, _, rfl, rfl, ⟨_, rfl, hm.grow hG⟩, trivial⟩ (fun v hv => W.mk ?_)
      subst hv
      dsimp only
      rw [hidO] at hx
      (conv => whnf)
      refine ForkP.mk (fun hq => W.mk ?_) (fun hq => W.mk ?_) <;> (conv => whnf)
      · rw [hq, Bool.true_and] at hx
        repeat' (first | (refine OblP.mk ?_ (W.mk ?_); (first | trivial | omega | (simp only [inR]; omega) | exact Nat.le_of_ble_eq_true (by rfl) | exact SlR.some (by assumption) (by omega)); (conv => whnf)) | (first | (refine RdP.at (by assumption) (by rfl) (W.mk ?_); (conv => whnf)) | (refine RdP.sub (by assumption) (by rfl) (W.mk ?_); (conv => whnf)) | (refine RdP.sub2 (by assumption) (by rfl) (W.mk ?_); (conv => whnf)) | (refine RdP.sub3 (by assumption) (by rfl) (W.mk ?_); (conv => whnf))))
        refine OblP.mk ⟨_, _, _, rfl⟩ (W.mk ?_)
        (conv => whnf)
        refine ForkP.mk (fun hn => W.mk ?_) (fun hn => W.mk ?_) <;> (conv => whnf)
        · have hn : inF q f (t - 1) = true := hn
          refine FinP.mk ?_
          refine congrArg Value.bool ?_
          rw [← hx, hn]; rfl
        · have hn : inF q f (t - 1) = false := hn
          rw [hn, Bool.false_or] at hx
          repeat' (first | (refine OblP.mk ?_ (W.mk ?_); (first | trivial | omega | (simp only [inR]; omega) | exact Nat.le_of_ble_eq_true (by rfl) | exact SlR.some (by assumption) (by omega)); (conv => whnf)) | (first | (refine RdP.at (by assumption) (by rfl) (W.mk ?_); (conv => whnf)) | (refine RdP.sub (by assumption) (by rfl) (W.mk ?_); (conv => whnf)) | (refine RdP.sub2 (by assumption) (by rfl) (W.mk ?_); (conv => whnf)) | (refine RdP.sub3 (by assumption) (by rfl) (W.mk ?_); (conv => whnf))))
          exact RoundP.of (i + 1) (HeadP.of [] ⟨rfl, rfl, rfl, rfl, trivial⟩ ⟨rfl, rfl, trivial⟩) ⟨by omega, hx⟩ (by simp only; omega)
      · rw [hq, Bool.false_and, Bool.false_or] at hx
        repeat' (first | (refine OblP.mk ?_ (W.mk ?_); (first | trivial | omega | (simp only [inR]; omega) | exact Nat.le_of_ble_eq_true (by rfl) | exact SlR.some (by assumption) (by omega)); (conv => whnf)) | (first | (refine RdP.at (by assumption) (by rfl) (W.mk ?_); (conv => whnf)) | (refine RdP.sub (by assumption) (by rfl) (W.mk ?_); (conv => whnf)) | (refine RdP.sub2 (by assumption) (by rfl) (W.mk ?_); (conv => whnf)) | (refine RdP.sub3 (by assumption) (by rfl) (W.mk ?_); (conv => whnf))))
        exact RoundP.of (i + 1) (HeadP.of [] ⟨rfl, rfl, rfl, rfl, trivial⟩ ⟨rfl, rfl, trivial⟩) ⟨by omega, hx⟩ (by simp only; omega)
    · have : i = r.orders.length := by omega
      rw [List.drop_of_length_le (by omega)] at hx
      refine FinP.mk ?_
      refine congrArg Value.bool ?_
      rw [← hx]; rfl
def rightX (x : Rx) : Bool := inF x.year 0 9999 && risM 7 x.may
def tabC : Tab Try.prog := Tab.cons 35 _ hidden35 body35 (Tab.cons 60 _ ris60 body60 tabB)
theorem reader49 : Sound Try.prog 49 id (gsca (args1 rxRd fun _ => True) fun x v => v = .bool (rightX x)) := by
  refine comp49.gsca tabC (fun args G s h => ?_) (fun args G x h => ?_)
  · obtain ⟨v, rfl, _⟩ := h; simp
  · obtain ⟨u, rfl, ⟨m, rfl, hm⟩, _⟩ := h
    obtain ⟨ma, mn, mc, rfl, hm1, hm2⟩ := id hm
    (conv => whnf)
    repeat' (first | (refine OblP.mk ?_ (W.mk ?_); (first | trivial | omega | (simp only [inR]; omega) | exact Nat.le_of_ble_eq_true (by rfl) | exact SlR.some (by assumption) (by omega)); (conv => whnf)) | (first | (refine RdP.at (by assumption) (by rfl) (W.mk ?_); (conv => whnf)) | (refine RdP.sub (by assumption) (by rfl) (W.mk ?_); (conv => whnf)) | (refine RdP.sub2 (by assumption) (by rfl) (W.mk ?_); (conv => whnf)) | (refine RdP.sub3 (by assumption) (by rfl) (W.mk ?_); (conv => whnf))))
    refine OblP.mk ⟨_, _, _, rfl⟩ (W.mk ?_)
    (conv => whnf)
    refine ForkP.mk (fun hq => W.mk ?_) (fun hq => W.mk ?_) <;> (conv => whnf)
    · have hq : inF x.year 0 9999 = true := hq
      refine ScaP.g (ok2 (slRd intE) intRd fun _ _ => True) (x := (x.may, 7)) ⟨_, _, rfl, hm, rfl, trivial⟩ (fun v hv => W.mk ?_)
      subst hv
      dsimp only
      (conv => whnf)
      refine ForkP.mk (fun hn => W.mk ?_) (fun hn => W.mk ?_) <;> (conv => whnf) <;> refine FinP.mk ?_ <;> (refine congrArg Value.bool ?_; rw [rightX, hq, hn]; rfl)
    · have hq : inF x.year 0 9999 = false := hq
      refine FinP.mk ?_
      refine congrArg Value.bool ?_
      rw [rightX, hq]; rfl
end Go.Proofs.Ytpcpjmplgladmaa

namespace Go.Proofs.Ytpcpjmplgladmaa
open Go.Pal
set_option maxRecDepth 100000
/-- What is shown of the words below one: the words of the pieces, -1 for a gap. -/
def shK (r : Rp) (x : Rx) : Nat → List Int
  | 0 => []
  | i + 1 => if hidF r x i then (if (shK r x i).length = 0 ∨ (shK r x i).getD ((shK r x i).length - 1) 0 ≠ -1 then shK r x i ++ [-1] else shK r x i) else shK r x i ++ [(i : Int)]
theorem shK_len (r : Rp) (x : Rx) : ∀ i, (shK r x i).length ≤ i
  | 0 => by simp [shK]
  | i + 1 => by
    have := shK_len r x i
    simp only [shK]
    split
    · split
      · simp; omega
      · omega
    · simp; omega
def shF (r : Rp) (x : Rx) : List Int := shK r x r.words.length
def RpOk (r : Rp) : Prop := ordB r ∧ r.words.length ≤ 1000
theorem shown33 : Sound Try.prog 33 id (grel (args2 rpRd rxRd fun r _ => RpOk r) fun p v G => SlV intE G v (shF p.1 p.2)) := by
  refine comp33.grel tabC (ok2 _ _ _) (fun args G s h => ?_) (fun x v G G' hg h => h.grow hg) (fun args G p h => ?_)
  · obtain ⟨v, w, rfl, _⟩ := h; simp
  · obtain ⟨r, x⟩ := p
    obtain ⟨u, v, rfl, ⟨rw_, ro, rfl, hrc⟩, ⟨m, rfl, hm⟩, hb, hwl⟩ := h
    dsimp only at hrc hm hb hwl
    obtain ⟨oa, on, oc, rfl, ho1, ho2⟩ := id hrc.o
    obtain ⟨wa, wn, wc, rfl, hw1, hw2⟩ := id hrc.w
    obtain ⟨ma, mn, mc, rfl, hm1, hm2⟩ := id hm
    have hwn := hw1.len
    dsimp only
    (conv => whnf)
    refine LoopP.of { α := Nat × Nat × List Value, fr := fun y => [(2, .c (.ptr 0 0)), (3, .c (.ptr 1 0)), (5, .c (.row 3 y.2.1)), (6, .v (I y.1))], H := fun y => [(0, .cells .anon [.val (.slice wa wn wc), .val (.slice oa on oc), .val (I r.cols)] 25), (1, .cells .anon [.val (I x.year), .val (.slice ma mn mc)] 28), (3, .row none y.2.1 y.2.2 3 1)], ok := fun y _ => y.1 ≤ wn ∧ Row intE (shK r x y.1) y.2.1 y.2.2, m := fun y => wn - y.1 }
      (0, 0, []) (HeadP.of [(3, none)] ⟨rfl, rfl, rfl, rfl, trivial⟩ ⟨rfl, rfl, rfl, trivial⟩) ⟨Nat.zero_le _, Row.nil⟩ (fun _ => ⟨rfl, rfl⟩) (fun y G1 hg1 hx => W.mk ?_)
    obtain ⟨i, n, vs⟩ := y
    obtain ⟨hi, hrow⟩ := hx
    dsimp only at hi hrow
    have hrn := hrow.n
    have hsl := shK_len r x i
    dsimp only
    (conv => whnf)
    refine IteP.mk (fun hlt => W.mk ?_) (fun hge => W.mk ?_) <;> (conv => whnf)
    · have hsu : shK r x (i + 1) = if hidF r x i then (if (shK r x i).length = 0 ∨ (shK r x i).getD ((shK r x i).length - 1) 0 ≠ -1 then shK r x i ++ [-1] else shK r x i) else shK r x i ++ [(i : Int)] := rfl
      refine ScaP.g (ok3 rpRd rxRd intRd fun r _ _ => ordB r) (x := (r, x, (i : Int))) ⟨_, _, _, rfl, ⟨_, _, rfl, hrc.grow hg1⟩, ⟨_, rfl, hm.grow hg1⟩, rfl, hb⟩ (fun v hv => W.mk ?_)
      subst hv
      dsimp only
      (conv => whnf)
      refine ForkP.mk (fun hq => W.mk ?_) (fun hq => W.mk ?_) <;> (conv => whnf)
      · rw [if_pos hq] at hsu
        generalize shK r x i = L at *
        refine IteP.mk (fun hz => W.mk ?_) (fun hz => W.mk ?_) <;> (conv => whnf)
        · repeat' (first | (refine OblP.mk rfl (W.mk ?_); (conv => whnf)) | (refine OblP.mk ?_ (W.mk ?_); (first | trivial | omega | (simp only [inR]; omega) | exact Nat.le_of_ble_eq_true (by rfl) | exact SlR.some (by assumption) (by omega)); (conv => whnf)) | (first | (refine RdP.at (by assumption) (by rfl) (W.mk ?_); (conv => whnf)) | (refine RdP.sub (by assumption) (by rfl) (W.mk ?_); (conv => whnf)) | (refine RdP.sub2 (by assumption) (by rfl) (W.mk ?_); (conv => whnf)) | (refine RdP.sub3 (by assumption) (by rfl) (W.mk ?_); (conv => whnf))))
          rw [if_pos (.inl (by omega))] at hsu
          refine RoundP.of (i + 1, n + 1, vs ++ [I (-1)]) (HeadP.of [(3, some 34)] ⟨rfl, rfl, rfl, rfl, trivial⟩ ⟨rfl, rfl, rfl, trivial⟩) ⟨by show i + 1 ≤ wn; omega, ?_⟩ (by simp only; omega)
          rw [hsu]
          exact hrow.snoc (-1)
        · have hn1 : n - 1 < L.length := by omega
          have hat := hrow.at hn1
          have hgd : L.getD (L.length - 1) 0 = L[n - 1] := by rw [← hrn]; exact gd0 hn1
          rw [hgd] at hsu
          generalize L[n - 1] = last at hat hsu
          have hat : (vs.drop (((n : Int) - 1).toNat * 1)).take 1 = [I last] := by
            rw [show ((n : Int) - 1).toNat = n - 1 by omega]; exact hat
          repeat' (first | (refine OblP.mk ?_ (W.mk ?_); (first | trivial | omega | (simp only [inR]; omega) | exact Nat.le_of_ble_eq_true (by rfl) | exact SlR.some (by assumption) (by omega)); (conv => whnf)) | (first | (refine RdP.at (by assumption) (by rfl) (W.mk ?_); (conv => whnf)) | (refine RdP.sub (by assumption) (by rfl) (W.mk ?_); (conv => whnf)) | (refine RdP.sub2 (by assumption) (by rfl) (W.mk ?_); (conv => whnf)) | (refine RdP.sub3 (by assumption) (by rfl) (W.mk ?_); (conv => whnf))))
          refine EqP.mk ⟨_, hat, rfl, W.mk ?_⟩
          (conv => whnf)
          repeat' (first | (refine OblP.mk ?_ (W.mk ?_); (first | trivial | omega | (simp only [inR]; omega) | exact Nat.le_of_ble_eq_true (by rfl) | exact SlR.some (by assumption) (by omega)); (conv => whnf)) | (first | (refine RdP.at (by assumption) (by rfl) (W.mk ?_); (conv => whnf)) | (refine RdP.sub (by assumption) (by rfl) (W.mk ?_); (conv => whnf)) | (refine RdP.sub2 (by assumption) (by rfl) (W.mk ?_); (conv => whnf)) | (refine RdP.sub3 (by assumption) (by rfl) (W.mk ?_); (conv => whnf))))
          refine IteP.mk (fun h5 => W.mk ?_) (fun h5 => W.mk ?_) <;> (conv => whnf)
          · have h5 : last = -1 := h5
            rw [if_neg (by omega)] at hsu
            repeat' (first | (refine OblP.mk ?_ (W.mk ?_); (first | trivial | omega | (simp only [inR]; omega) | exact Nat.le_of_ble_eq_true (by rfl) | exact SlR.some (by assumption) (by omega)); (conv => whnf)) | (first | (refine RdP.at (by assumption) (by rfl) (W.mk ?_); (conv => whnf)) | (refine RdP.sub (by assumption) (by rfl) (W.mk ?_); (conv => whnf)) | (refine RdP.sub2 (by assumption) (by rfl) (W.mk ?_); (conv => whnf)) | (refine RdP.sub3 (by assumption) (by rfl) (W.mk ?_); (conv => whnf))))
            refine RoundP.of (i + 1, n, vs) (HeadP.of [] ⟨rfl, rfl, rfl, rfl, trivial⟩ ⟨rfl, rfl, rfl, trivial⟩) ⟨by show i + 1 ≤ wn; omega, ?_⟩ (by simp only; omega)
            rw [hsu]
            exact hrow
          · have h5 : ¬ last = -1 := h5
            rw [if_pos (.inr h5)] at hsu
            repeat' (first | (refine OblP.mk rfl (W.mk ?_); (conv => whnf)) | (refine OblP.mk ?_ (W.mk ?_); (first | trivial | omega | (simp only [inR]; omega) | exact Nat.le_of_ble_eq_true (by rfl) | exact SlR.some (by assumption) (by omega)); (conv => whnf)) | (first | (refine RdP.at (by assumption) (by rfl) (W.mk ?_); (conv => whnf)) | (refine RdP.sub (by assumption) (by rfl) (W.mk ?_); (conv => whnf)) | (refine RdP.sub2 (by assumption) (by rfl) (W.mk ?_); (conv => whnf)) | (refine RdP.sub3 (by assumption) (by rfl) (W.mk ?_); (conv => whnf))))
            refine RoundP.of (i + 1, n + 1, vs ++ [I (-1)]) (HeadP.of [(3, some 34)] ⟨rfl, rfl, rfl, rfl, trivial⟩ ⟨rfl, rfl, rfl, trivial⟩) ⟨by show i + 1 ≤ wn; omega, ?_⟩ (by simp only; omega)
            rw [hsu]
            exact hrow.snoc (-1)
      · rw [if_neg (by rw [hq]; simp)] at hsu
        repeat' (first | (refine OblP.mk rfl (W.mk ?_); (conv => whnf)) | (refine OblP.mk ?_ (W.mk ?_); (first | trivial | omega | (simp only [inR]; omega) | exact Nat.le_of_ble_eq_true (by rfl) | exact SlR.some (by assumption) (by omega)); (conv => whnf)) | (first | (refine RdP.at (by assumption) (by rfl) (W.mk ?_); (conv => whnf)) | (refine RdP.sub (by assumption) (by rfl) (W.mk ?_); (conv => whnf)) | (refine RdP.sub2 (by assumption) (by rfl) (W.mk ?_); (conv => whnf)) | (refine RdP.sub3 (by assumption) (by rfl) (W.mk ?_); (conv => whnf))))
        refine RoundP.of (i + 1, n + 1, vs ++ [I (i : Nat)]) (HeadP.of [(3, some 18)] ⟨rfl, rfl, rfl, rfl, trivial⟩ ⟨rfl, rfl, rfl, trivial⟩) ⟨by show i + 1 ≤ wn; omega, ?_⟩ (by simp only; omega)
        rw [hsu]
        exact hrow.snoc (i : Int)
    · have : i = r.words.length := by omega
      subst this
      refine PubP.mk (fun a1 c1 G2 hg2 hp => W.mk ?_)
      (conv => whnf)
      exact FinP.mk (hrow.pub hp (by omega))
end Go.Proofs.Ytpcpjmplgladmaa

namespace Go.Proofs.Ytpcpjmplgladmaa
open Go.Pal
set_option maxRecDepth 100000
theorem und9 : Try.prog.underlying 9 = some .string := by kernel_rfl
def byteAt (s : ByteArray) (k : Nat) : Int := if h : k < s.size then ((s[k]).toNat : Int) else 0
theorem idx9 (s : ByteArray) (k : Nat) (h : k < s.size) : ∀ w, ((POp.idx 9).sem [.string s, I k]).run Try.prog w = .ok (.int .u8 (byteAt s k)) w := fun w => by
  have e1 : (POp.idx 9).sem [.string s, I k] = Instr.index 9 (.string s) (I k) := rfl
  rw [e1]
  simp [Instr.index, run_underlying und9, asIntOf, Result.andThen, h, byteAt]
def badC (c : Int) : Bool := decide (c < 33) || decide (126 < c)
def badT (s : ByteArray) : Bool := (List.range s.size).any fun k => badC (byteAt s k)
def badW (w : Wd) : Bool := !inF w.text.size 1 20 || !risM 99 w.heads || badT w.text
def badO (n : Int) (o : Od) : Bool := !inF o.t 1 n || !inF o.f 0 (o.t - 1) || !inF o.k 0 7 || !inF o.u 0 9999
def longW (w : Wd) : Bool := decide (5 < w.heads.length)
def faultR (r : Rp) : Int := if 60 < r.words.length ∨ 12 < r.orders.length then 3 else if r.words.any longW then 3 else if r.words.any badW || r.orders.any (badO r.words.length) || !inF r.cols 1 20 then 1 else 0
theorem fault32 : Sound Try.prog 32 id (gsca (args1 rpRd fun r => ∀ w ∈ r.words, w.text.size ≤ 1000) fun r v => v = I (faultR r)) := by
  refine comp32.gsca tabC (fun args G s h => ?_) (fun args G r h => ?_)
  · obtain ⟨v, rfl, _⟩ := h; simp
  · obtain ⟨u, rfl, ⟨rw_, ro, rfl, hrc⟩, hts⟩ := h
    obtain ⟨oa, on, oc, rfl, ho1, ho2⟩ := id hrc.o
    obtain ⟨wa, wn, wc, rfl, hw1, hw2⟩ := id hrc.w
    have hwn := hw1.len
    have hon := ho1.len
    (conv => whnf)
    have h3 : 60 < r.words.length ∨ 12 < r.orders.length → faultR r = 3 := fun h => by rw [faultR, if_pos h]
    refine IteP.mk (fun h1 => W.mk ?_) (fun h1 => W.mk ?_) <;> (conv => whnf)
    · refine FinP.mk ?_
      rw [h3 (.inl (by omega))]; rfl
    refine IteP.mk (fun h2 => W.mk ?_) (fun h2 => W.mk ?_) <;> (conv => whnf)
    · refine FinP.mk ?_
      rw [h3 (.inr (by omega))]; rfl
    have hfa : faultR r = if r.words.any longW then 3 else if r.words.any badW || r.orders.any (badO r.words.length) || !inF r.cols 1 20 then 1 else 0 := by rw [faultR, if_neg (by omega)]
    refine LoopP.of { α := Nat, fr := fun i => [(1, .c (.ptr 0 0)), (3, .v (I i))], H := fun _ => [(0, .cells .anon [.val (.slice wa wn wc), .val (.slice oa on oc), .val (I r.cols)] 25)], ok := fun i _ => i ≤ wn ∧ (r.words.drop i).any longW = r.words.any longW, m := fun i => wn - i }
      0 (HeadP.of [] ⟨rfl, rfl, trivial⟩ ⟨rfl, trivial⟩) ⟨Nat.zero_le _, rfl⟩ (fun _ => ⟨rfl, rfl⟩) (fun (i : Nat) G1 hg1 hx => W.mk ?_)
    obtain ⟨hi, hx⟩ := hx
    have hw3 : SlR 2 WdR G1 wa wn wc r.words := SlR.grow (fun _ _ h => h.grow hg1) hw1 hg1
    dsimp only
    (conv => whnf)
    refine IteP.mk (fun hlt => W.mk ?_) (fun hge => W.mk ?_) <;> (conv => whnf)
    · have hlt : i < r.words.length := by omega
      rw [List.drop_eq_getElem_cons hlt, List.any_cons] at hx
      obtain ⟨cs, _, hc, hv, rfl, ha, hn, hcc, rfl, hh1, hh2⟩ := SlR.cells hw3 hlt
      have hhl := hh1.len
      have hlw : longW r.words[i] = decide (5 < r.words[i].heads.length) := rfl
      repeat' (first | (refine OblP.mk ?_ (W.mk ?_); (first | trivial | omega | (simp only [inR]; omega) | exact Nat.le_of_ble_eq_true (by rfl) | exact SlR.some (by assumption) (by omega)); (conv => whnf)) | (first | (refine RdP.at (by assumption) (by rfl) (W.mk ?_); (conv => whnf)) | (refine RdP.sub (by assumption) (by rfl) (W.mk ?_); (conv => whnf)) | (refine RdP.sub2 (by assumption) (by rfl) (W.mk ?_); (conv => whnf)) | (refine RdP.sub3 (by assumption) (by rfl) (W.mk ?_); (conv => whnf))))
      refine IteP.mk (fun h5 => W.mk ?_) (fun h5 => W.mk ?_) <;> (conv => whnf)
      · refine FinP.mk ?_
        rw [hfa, ← hx, hlw, decide_eq_true (by omega)]; rfl
      · rw [hlw, decide_eq_false (by omega), Bool.false_or] at hx
        repeat' (first | (refine OblP.mk ?_ (W.mk ?_); (first | trivial | omega | (simp only [inR]; omega) | exact Nat.le_of_ble_eq_true (by rfl) | exact SlR.some (by assumption) (by omega)); (conv => whnf)) | (first | (refine RdP.at (by assumption) (by rfl) (W.mk ?_); (conv => whnf)) | (refine RdP.sub (by assumption) (by rfl) (W.mk ?_); (conv => whnf)) | (refine RdP.sub2 (by assumption) (by rfl) (W.mk ?_); (conv => whnf)) | (refine RdP.sub3 (by assumption) (by rfl) (W.mk ?_); (conv => whnf))))
        exact RoundP.of (i + 1) (HeadP.of [] ⟨rfl, rfl, trivial⟩ ⟨rfl, trivial⟩) ⟨by omega, hx⟩ (by simp only; omega)
    have hie : i = r.words.length := by omega
    rw [List.drop_of_length_le (by omega)] at hx
    have hx : false = r.words.any longW := hx
    rw [← hx, if_neg (by simp)] at hfa
    clear hx
    refine LoopP.of { α := Nat, fr := fun i => [(1, .c (.ptr 0 0)), (4, .v (I i))], H := fun _ => [(0, .cells .anon [.val (.slice wa wn wc), .val (.slice oa on oc), .val (I r.cols)] 25)], ok := fun i _ => i ≤ wn ∧ (r.words.drop i).any badW = r.words.any badW, m := fun i => wn - i }
      0 (HeadP.of [] ⟨rfl, rfl, trivial⟩ ⟨rfl, trivial⟩) ⟨Nat.zero_le _, rfl⟩ (fun _ => ⟨rfl, rfl⟩) (fun (i2 : Nat) G2 hg2 hx => W.mk ?_)
    obtain ⟨hi2, hx⟩ := hx
    have hw4 : SlR 2 WdR G2 wa wn wc r.words := SlR.grow (fun _ _ h => h.grow hg2) hw3 hg2
    dsimp only
    (conv => whnf)
    refine IteP.mk (fun hlt => W.mk ?_) (fun hge => W.mk ?_) <;> (conv => whnf)
    · have hlt : i2 < r.words.length := by omega
      rw [List.drop_eq_getElem_cons hlt, List.any_cons] at hx
      obtain ⟨cs, _, hc, hv, rfl, ha, hn, hcc, rfl, hh1, hh2⟩ := SlR.cells hw4 hlt
      have hsz := hts _ (List.getElem_mem hlt)
      have hbw : badW r.words[i2] = (!inF r.words[i2].text.size 1 20 || !risM 99 r.words[i2].heads || badT r.words[i2].text) := rfl
      generalize r.words[i2] = w at *
      repeat' (first | (refine OblP.mk ?_ (W.mk ?_); (first | trivial | omega | (simp only [inR]; omega) | exact Nat.le_of_ble_eq_true (by rfl) | exact SlR.some (by assumption) (by omega)); (conv => whnf)) | (first | (refine RdP.at (by assumption) (by rfl) (W.mk ?_); (conv => whnf)) | (refine RdP.sub (by assumption) (by rfl) (W.mk ?_); (conv => whnf)) | (refine RdP.sub2 (by assumption) (by rfl) (W.mk ?_); (conv => whnf)) | (refine RdP.sub3 (by assumption) (by rfl) (W.mk ?_); (conv => whnf))))
      refine OblP.mk ⟨_, _, _, rfl⟩ (W.mk ?_)
      (conv => whnf)
      have bad : badW w = true → faultR r = 1 := fun h => by rw [hfa, ← hx, h]; rfl
      refine ForkP.mk (fun hq => W.mk ?_) (fun hq => W.mk ?_) <;> (conv => whnf)
      rotate_left
      · have hq : inF w.text.size 1 20 = false := hq
        refine FinP.mk ?_
        rw [bad (by rw [hbw, hq]; rfl)]; rfl
      have hq : inF w.text.size 1 20 = true := hq
      repeat' (first | (refine OblP.mk ?_ (W.mk ?_); (first | trivial | omega | (simp only [inR]; omega) | exact Nat.le_of_ble_eq_true (by rfl) | exact SlR.some (by assumption) (by omega)); (conv => whnf)) | (first | (refine RdP.at (by assumption) (by rfl) (W.mk ?_); (conv => whnf)) | (refine RdP.sub (by assumption) (by rfl) (W.mk ?_); (conv => whnf)) | (refine RdP.sub2 (by assumption) (by rfl) (W.mk ?_); (conv => whnf)) | (refine RdP.sub3 (by assumption) (by rfl) (W.mk ?_); (conv => whnf))))
      refine ScaP.g (ok2 (slRd intE) intRd fun _ _ => True) (x := (w.heads, 99)) ⟨_, _, rfl, ⟨_, _, _, rfl, hh1, hh2⟩, rfl, trivial⟩ (fun v hv => W.mk ?_)
      subst hv
      dsimp only
      (conv => whnf)
      refine ForkP.mk (fun hr => W.mk ?_) (fun hr => W.mk ?_) <;> (conv => whnf)
      rotate_left
      · refine FinP.mk ?_
        rw [bad (by rw [hbw, hq, hr]; rfl)]; rfl
      rw [hq, hr] at hbw
      have hbw : badW w = badT w.text := hbw
      refine LoopP.of { α := Nat, fr := fun k => [(1, .c (.ptr 0 0)), (4, .v (I i2)), (5, .c (.ptr 42 0)), (6, .v (I k))], H := fun _ => [(0, .cells .anon [.val (.slice wa wn wc), .val (.slice oa on oc), .val (I r.cols)] 25), (42, .cells .anon [.val (.string w.text), .val (.slice ha hn hcc)] 82)], ok := fun k _ => k ≤ w.text.size ∧ ∀ j, j < k → badC (byteAt w.text j) = false, m := fun k => w.text.size - k }
        0 (HeadP.of [] ⟨rfl, rfl, rfl, rfl, trivial⟩ ⟨rfl, rfl, trivial⟩) ⟨Nat.zero_le _, fun j hj => by omega⟩ (fun _ => ⟨rfl, rfl⟩) (fun (k : Nat) G3 hg3 hx3 => W.mk ?_)
      obtain ⟨hk, hx3⟩ := hx3
      dsimp only
      (conv => whnf)
      repeat' (first | (refine OblP.mk ?_ (W.mk ?_); (first | trivial | omega | (simp only [inR]; omega) | exact Nat.le_of_ble_eq_true (by rfl) | exact SlR.some (by assumption) (by omega)); (conv => whnf)) | (first | (refine RdP.at (by assumption) (by rfl) (W.mk ?_); (conv => whnf)) | (refine RdP.sub (by assumption) (by rfl) (W.mk ?_); (conv => whnf)) | (refine RdP.sub2 (by assumption) (by rfl) (W.mk ?_); (conv => whnf)) | (refine RdP.sub3 (by assumption) (by rfl) (W.mk ?_); (conv => whnf))))
      refine IteP.mk (fun hlk => W.mk ?_) (fun hge => W.mk ?_) <;> (conv => whnf)
      · have hlk : k < w.text.size := by omega
        have hbt : badC (byteAt w.text k) = true → badT w.text = true := fun h => by
          rw [badT, List.any_eq_true]
          exact ⟨k, List.mem_range.2 hlk, h⟩
        have hbc : badC (byteAt w.text k) = (decide (byteAt w.text k < 33) || decide (126 < byteAt w.text k)) := rfl
        have hi9 := idx9 w.text k hlk
        generalize hce : byteAt w.text k = c at hbt hbc hi9
        repeat' (first | (refine OblP.mk ?_ (W.mk ?_); (first | trivial | omega | (simp only [inR]; omega) | exact Nat.le_of_ble_eq_true (by rfl) | exact SlR.some (by assumption) (by omega)); (conv => whnf)) | (first | (refine RdP.at (by assumption) (by rfl) (W.mk ?_); (conv => whnf)) | (refine RdP.sub (by assumption) (by rfl) (W.mk ?_); (conv => whnf)) | (refine RdP.sub2 (by assumption) (by rfl) (W.mk ?_); (conv => whnf)) | (refine RdP.sub3 (by assumption) (by rfl) (W.mk ?_); (conv => whnf))))
        refine PurP.of _ hi9 (W.mk ?_)
        (conv => whnf)
        refine IteP.mk (fun h5 => W.mk ?_) (fun h5 => W.mk ?_) <;> (conv => whnf)
        · have h5 : c < 33 := h5
          refine FinP.mk ?_
          rw [bad (by rw [hbw]; exact hbt (by rw [hbc, decide_eq_true h5]; rfl))]; rfl
        · have h5 : ¬ c < 33 := h5
          repeat' (first | (refine OblP.mk ?_ (W.mk ?_); (first | trivial | omega | (simp only [inR]; omega) | exact Nat.le_of_ble_eq_true (by rfl) | exact SlR.some (by assumption) (by omega)); (conv => whnf)) | (first | (refine RdP.at (by assumption) (by rfl) (W.mk ?_); (conv => whnf)) | (refine RdP.sub (by assumption) (by rfl) (W.mk ?_); (conv => whnf)) | (refine RdP.sub2 (by assumption) (by rfl) (W.mk ?_); (conv => whnf)) | (refine RdP.sub3 (by assumption) (by rfl) (W.mk ?_); (conv => whnf))))
          refine PurP.of _ hi9 (W.mk ?_)
          (conv => whnf)
          refine IteP.mk (fun h6 => W.mk ?_) (fun h6 => W.mk ?_) <;> (conv => whnf)
          · have h6 : c > 126 := h6
            refine FinP.mk ?_
            rw [bad (by rw [hbw]; exact hbt (by rw [hbc, decide_eq_true (show 126 < c from h6), Bool.or_true]))]; rfl
          · have h6 : ¬ c > 126 := h6
            repeat' (first | (refine OblP.mk ?_ (W.mk ?_); (first | trivial | omega | (simp only [inR]; omega) | exact Nat.le_of_ble_eq_true (by rfl) | exact SlR.some (by assumption) (by omega)); (conv => whnf)) | (first | (refine RdP.at (by assumption) (by rfl) (W.mk ?_); (conv => whnf)) | (refine RdP.sub (by assumption) (by rfl) (W.mk ?_); (conv => whnf)) | (refine RdP.sub2 (by assumption) (by rfl) (W.mk ?_); (conv => whnf)) | (refine RdP.sub3 (by assumption) (by rfl) (W.mk ?_); (conv => whnf))))
            refine RoundP.of (k + 1) (HeadP.of [] ⟨rfl, rfl, rfl, rfl, trivial⟩ ⟨rfl, rfl, trivial⟩) ⟨by omega, fun j hj => ?_⟩ (by simp only; omega)
            rcases Nat.lt_succ_iff_lt_or_eq.1 hj with h | rfl
            · exact hx3 j h
            · show badC (byteAt w.text j) = false
              rw [hce, hbc, decide_eq_false h5, decide_eq_false (show ¬ 126 < c from h6)]; rfl
      · have hkz : k = w.text.size := by omega
        have hbt : badT w.text = false := by
          rw [badT, List.any_eq_false]
          intro j hj
          rw [hx3 j (by have := List.mem_range.1 hj; omega)]; simp
        rw [hbw, hbt, Bool.false_or] at hx
        repeat' (first | (refine OblP.mk ?_ (W.mk ?_); (first | trivial | omega | (simp only [inR]; omega) | exact Nat.le_of_ble_eq_true (by rfl) | exact SlR.some (by assumption) (by omega)); (conv => whnf)) | (first | (refine RdP.at (by assumption) (by rfl) (W.mk ?_); (conv => whnf)) | (refine RdP.sub (by assumption) (by rfl) (W.mk ?_); (conv => whnf)) | (refine RdP.sub2 (by assumption) (by rfl) (W.mk ?_); (conv => whnf)) | (refine RdP.sub3 (by assumption) (by rfl) (W.mk ?_); (conv => whnf))))
        exact RoundP.of (i2 + 1) (HeadP.of [] ⟨rfl, rfl, trivial⟩ ⟨rfl, trivial⟩) ⟨by omega, hx⟩ (by simp only; omega)
    have hie2 : i2 = r.words.length := by omega
    rw [List.drop_of_length_le (by omega)] at hx
    have hx : false = r.words.any badW := hx
    rw [← hx, Bool.false_or] at hfa
    clear hx
    refine LoopP.of { α := Nat, fr := fun i => [(1, .c (.ptr 0 0)), (7, .v (I i))], H := fun _ => [(0, .cells .anon [.val (.slice wa wn wc), .val (.slice oa on oc), .val (I r.cols)] 25)], ok := fun i _ => i ≤ on ∧ (r.orders.drop i).any (badO r.words.length) = r.orders.any (badO r.words.length), m := fun i => on - i }
      0 (HeadP.of [] ⟨rfl, rfl, trivial⟩ ⟨rfl, trivial⟩) ⟨Nat.zero_le _, rfl⟩ (fun _ => ⟨rfl, rfl⟩) (fun (i3 : Nat) G4 hg4 hx => W.mk ?_)
    obtain ⟨hi3, hx⟩ := hx
    dsimp only
    (conv => whnf)
    refine IteP.mk (fun hlt => W.mk ?_) (fun hge => W.mk ?_) <;> (conv => whnf)
    · have hlt : i3 < r.orders.length := by omega
      have hc := (SlR.grow (G := G) (G' := G4) (fun _ _ h => h) ho1 (((hg1.trans hg2).trans hg4))).el hlt
      rw [List.drop_eq_getElem_cons hlt, List.any_cons] at hx
      generalize r.orders[i3] = o at hc hx
      obtain ⟨f, t, k, y⟩ := o
      have bad : badO r.words.length ⟨f, t, k, y⟩ = true → faultR r = 1 := fun h => by rw [hfa, ← hx, h]; rfl
      have hbo : badO r.words.length ⟨f, t, k, y⟩ = (!inF t 1 r.words.length || !inF f 0 (t - 1) || !inF k 0 7 || !inF y 0 9999) := rfl
      repeat' (first | (refine OblP.mk ?_ (W.mk ?_); (first | trivial | omega | (simp only [inR]; omega) | exact Nat.le_of_ble_eq_true (by rfl) | exact SlR.some (by assumption) (by omega)); (conv => whnf)) | (first | (refine RdP.at (by assumption) (by rfl) (W.mk ?_); (conv => whnf)) | (refine RdP.sub (by assumption) (by rfl) (W.mk ?_); (conv => whnf)) | (refine RdP.sub2 (by assumption) (by rfl) (W.mk ?_); (conv => whnf)) | (refine RdP.sub3 (by assumption) (by rfl) (W.mk ?_); (conv => whnf))))
      refine OblP.mk ⟨_, _, _, rfl⟩ (W.mk ?_)
      (conv => whnf)
      refine ForkP.mk (fun hq => W.mk ?_) (fun hq => W.mk ?_) <;> (conv => whnf)
      rotate_left
      · have hq : inF t 1 (wn : Int) = false := hq
        refine FinP.mk ?_
        rw [bad (by rw [hbo, hwn, hq]; rfl)]; rfl
      have hq : inF t 1 (wn : Int) = true := hq
      have hqt : 1 ≤ t ∧ t ≤ (wn : Int) := by simpa [inF] using hq
      repeat' (first | (refine OblP.mk ?_ (W.mk ?_); (first | trivial | omega | (simp only [inR]; omega) | exact Nat.le_of_ble_eq_true (by rfl) | exact SlR.some (by assumption) (by omega)); (conv => whnf)) | (first | (refine RdP.at (by assumption) (by rfl) (W.mk ?_); (conv => whnf)) | (refine RdP.sub (by assumption) (by rfl) (W.mk ?_); (conv => whnf)) | (refine RdP.sub2 (by assumption) (by rfl) (W.mk ?_); (conv => whnf)) | (refine RdP.sub3 (by assumption) (by rfl) (W.mk ?_); (conv => whnf))))
      refine OblP.mk ⟨_, _, _, rfl⟩ (W.mk ?_)
      (conv => whnf)
      refine ForkP.mk (fun hq2 => W.mk ?_) (fun hq2 => W.mk ?_) <;> (conv => whnf)
      rotate_left
      · have hq2 : inF f 0 (t - 1) = false := hq2
        refine FinP.mk ?_
        rw [bad (by rw [hbo, hwn, hq, hq2]; rfl)]; rfl
      have hq2 : inF f 0 (t - 1) = true := hq2
      repeat' (first | (refine OblP.mk ?_ (W.mk ?_); (first | trivial | omega | (simp only [inR]; omega) | exact Nat.le_of_ble_eq_true (by rfl) | exact SlR.some (by assumption) (by omega)); (conv => whnf)) | (first | (refine RdP.at (by assumption) (by rfl) (W.mk ?_); (conv => whnf)) | (refine RdP.sub (by assumption) (by rfl) (W.mk ?_); (conv => whnf)) | (refine RdP.sub2 (by assumption) (by rfl) (W.mk ?_); (conv => whnf)) | (refine RdP.sub3 (by assumption) (by rfl) (W.mk ?_); (conv => whnf))))
      refine OblP.mk ⟨_, _, _, rfl⟩ (W.mk ?_)
      (conv => whnf)
      refine ForkP.mk (fun hq3 => W.mk ?_) (fun hq3 => W.mk ?_) <;> (conv => whnf)
      rotate_left
      · have hq3 : inF k 0 7 = false := hq3
        refine FinP.mk ?_
        rw [bad (by rw [hbo, hwn, hq, hq2, hq3]; rfl)]; rfl
      have hq3 : inF k 0 7 = true := hq3
      repeat' (first | (refine OblP.mk ?_ (W.mk ?_); (first | trivial | omega | (simp only [inR]; omega) | exact Nat.le_of_ble_eq_true (by rfl) | exact SlR.some (by assumption) (by omega)); (conv => whnf)) | (first | (refine RdP.at (by assumption) (by rfl) (W.mk ?_); (conv => whnf)) | (refine RdP.sub (by assumption) (by rfl) (W.mk ?_); (conv => whnf)) | (refine RdP.sub2 (by assumption) (by rfl) (W.mk ?_); (conv => whnf)) | (refine RdP.sub3 (by assumption) (by rfl) (W.mk ?_); (conv => whnf))))
      refine OblP.mk ⟨_, _, _, rfl⟩ (W.mk ?_)
      (conv => whnf)
      refine ForkP.mk (fun hq4 => W.mk ?_) (fun hq4 => W.mk ?_) <;> (conv => whnf)
      rotate_left
      · have hq4 : inF y 0 9999 = false := hq4
        refine FinP.mk ?_
        rw [bad (by rw [hbo, hwn, hq, hq2, hq3, hq4]; rfl)]; rfl
      have hq4 : inF y 0 9999 = true := hq4
      rw [hbo, hwn, hq, hq2, hq3, hq4] at hx
      repeat' (first | (refine OblP.mk ?_ (W.mk ?_); (first | trivial | omega | (simp only [inR]; omega) | exact Nat.le_of_ble_eq_true (by rfl) | exact SlR.some (by assumption) (by omega)); (conv => whnf)) | (first | (refine RdP.at (by assumption) (by rfl) (W.mk ?_); (conv => whnf)) | (refine RdP.sub (by assumption) (by rfl) (W.mk ?_); (conv => whnf)) | (refine RdP.sub2 (by assumption) (by rfl) (W.mk ?_); (conv => whnf)) | (refine RdP.sub3 (by assumption) (by rfl) (W.mk ?_); (conv => whnf))))
      refine RoundP.of (i3 + 1) (HeadP.of [] ⟨rfl, rfl, trivial⟩ ⟨rfl, trivial⟩) ⟨by omega, ?_⟩ (by simp only; omega)
      rw [hwn]
      exact hx
    have hie3 : i3 = r.orders.length := by omega
    rw [List.drop_of_length_le (by omega)] at hx
    have hx : false = r.orders.any (badO r.words.length) := hx
    rw [← hx, Bool.false_or] at hfa
    repeat' (first | (refine OblP.mk ?_ (W.mk ?_); (first | trivial | omega | (simp only [inR]; omega) | exact Nat.le_of_ble_eq_true (by rfl) | exact SlR.some (by assumption) (by omega)); (conv => whnf)) | (first | (refine RdP.at (by assumption) (by rfl) (W.mk ?_); (conv => whnf)) | (refine RdP.sub (by assumption) (by rfl) (W.mk ?_); (conv => whnf)) | (refine RdP.sub2 (by assumption) (by rfl) (W.mk ?_); (conv => whnf)) | (refine RdP.sub3 (by assumption) (by rfl) (W.mk ?_); (conv => whnf))))
    refine OblP.mk ⟨_, _, _, rfl⟩ (W.mk ?_)
    (conv => whnf)
    refine ForkP.mk (fun hq => W.mk ?_) (fun hq => W.mk ?_) <;> (conv => whnf)
    · have hq : inF r.cols 1 20 = true := hq
      refine FinP.mk ?_
      rw [hfa, hq]; rfl
    · have hq : inF r.cols 1 20 = false := hq
      refine FinP.mk ?_
      rw [hfa, hq]; rfl
end Go.Proofs.Ytpcpjmplgladmaa

namespace Go.Proofs.Ytpcpjmplgladmaa
open Go.Pal
set_option maxRecDepth 100000
abbrev U64 (n : Int) : Value := .int .u64 n
theorem shr_by {s i : Nat} (h : i ≤ 64) : ∀ w, ((POp.bin .shr 3).sem [I (s : Nat), U64 (i : Nat)]).run Try.prog w = .ok (I ((s / 2 ^ i : Nat) : Int)) w := fun w => by
  have e : (POp.bin .shr 3).sem [I (s : Nat), U64 (i : Nat)] = (do eqGuard .shr 3 (.tmp 0) (.tmp 0) (I (s : Nat)) (U64 (i : Nat)); Op.shift .shr .i64 s .u64 i) := rfl
  rw [e, shift_shr .i64 .u64 (s : Nat) (i : Nat) (by omega) (by show ((i : Nat) : Int) ≤ 64; omega)]
  have e2 : ((s : Nat) : Int) / 2 ^ ((i : Nat) : Int).toNat = ((s / 2 ^ i : Nat) : Int) := by simp
  rw [e2]; rfl
theorem shr_bit (s i : Nat) : ((s / 2 ^ i % 2 : Nat) : Int) = if s.testBit i then 1 else 0 := by
  rw [Nat.testBit_eq_decide_div_mod_eq]
  have := Nat.mod_two_eq_zero_or_one (s / 2 ^ i)
  rcases this with h | h <;> rw [h] <;> rfl
/-- The orders, below one, that a set has. -/
def selK (r : Rp) (s : Nat) : Nat → List Od
  | 0 => []
  | i + 1 => if s.testBit i then selK r s i ++ [r.orders.getD i ⟨0, 0, 0, 0⟩] else selK r s i
theorem selK_len (r : Rp) (s : Nat) : ∀ i, (selK r s i).length ≤ i
  | 0 => by simp [selK]
  | i + 1 => by
    have := selK_len r s i
    simp only [selK]
    split
    · simp; omega
    · omega
theorem selK_sub {r : Rp} {s : Nat} : ∀ {i : Nat}, i ≤ r.orders.length → ∀ o ∈ selK r s i, o ∈ r.orders
  | 0, _, o, h => by simp [selK] at h
  | i + 1, hi, o, h => by
    have ih := selK_sub (r := r) (s := s) (i := i) (by omega) o
    simp only [selK] at h
    split at h
    · rcases List.mem_append.1 h with h | h
      · exact ih h
      · simp at h
        rw [h]
        rw [List.getElem?_eq_getElem (by omega : i < r.orders.length)]
        simp
    · exact ih h
def sel (r : Rp) (s : Nat) : Rp := ⟨r.words, selK r s r.orders.length, 0⟩
def sameAt (r : Rp) (x : Rx) (s i : Nat) : Bool := !hidF r x i || hidF (sel r s) x i
def sameF (r : Rp) (x : Rx) (s : Nat) : Bool := (List.range r.words.length).all (sameAt r x s)
theorem sel_ord {r : Rp} {s : Nat} (h : ordB r) : ordB (sel r s) := fun o ho => h o (selK_sub (Nat.le_refl _) o ho)
theorem same66 : Sound Try.prog 66 id (gsca (fun args G (p : Rp × Rx × Nat) => ∃ u v, args = [u, v, I (p.2.2 : Nat)] ∧ RpV G u p.1 ∧ RxV G v p.2.1 ∧ RpOk p.1 ∧ p.1.orders.length ≤ 60) fun p v => v = .bool (sameF p.1 p.2.1 p.2.2)) := by
  refine comp66.gsca tabC (fun args G s h => ?_) (fun args G p h => ?_)
  · obtain ⟨u, v, rfl, _⟩ := h; simp
  · obtain ⟨r, x, s⟩ := p
    obtain ⟨u, v, rfl, ⟨rw_, ro, rfl, hrc⟩, ⟨m, rfl, hm⟩, ⟨hb, hwl⟩, ho60⟩ := h
    dsimp only at hrc hm hb hwl ho60
    obtain ⟨oa, on, oc, rfl, ho1, ho2⟩ := id hrc.o
    obtain ⟨wa, wn, wc, rfl, hw1, hw2⟩ := id hrc.w
    obtain ⟨ma, mn, mc, rfl, hm1, hm2⟩ := id hm
    have hwn := hw1.len
    have hon := ho1.len
    dsimp only
    (conv => whnf)
    refine LoopP.of { α := Nat × Nat × List Value, fr := fun y => [(2, .v (I s)), (3, .c (.ptr 0 0)), (4, .c (.ptr 1 0)), (7, .c (.row 3 y.2.1)), (8, .v (I y.1))], H := fun y => [(0, .cells .anon [.val (.slice wa wn wc), .val (.slice oa on oc), .val (I r.cols)] 25), (1, .cells .anon [.val (I x.year), .val (.slice ma mn mc)] 28), (3, .row none y.2.1 y.2.2 90 4)], ok := fun y _ => y.1 ≤ on ∧ Row odE (selK r s y.1) y.2.1 y.2.2, m := fun y => on - y.1 }
      (0, 0, []) (HeadP.of [(3, none)] ⟨rfl, rfl, rfl, rfl, rfl, trivial⟩ ⟨rfl, rfl, rfl, trivial⟩) ⟨Nat.zero_le _, Row.nil⟩ (fun _ => ⟨rfl, rfl⟩) (fun y G1 hg1 hx => W.mk ?_)
    obtain ⟨i, n, vs⟩ := y
    obtain ⟨hi, hrow⟩ := hx
    dsimp only at hi hrow
    have hrn := hrow.n
    have hsl := selK_len r s i
    dsimp only
    (conv => whnf)
    refine IteP.mk (fun hlt => W.mk ?_) (fun hge => W.mk ?_) <;> (conv => whnf)
    · have hlt : i < r.orders.length := by omega
      have hc := (SlR.grow (G := G) (G' := G1) (fun _ _ h => h) ho1 hg1).el hlt
      have hsu : selK r s (i + 1) = if s.testBit i then selK r s i ++ [r.orders.getD i ⟨0, 0, 0, 0⟩] else selK r s i := rfl
      have hgd : r.orders.getD i ⟨0, 0, 0, 0⟩ = r.orders[i] := by simp [hlt]
      have hbit := shr_bit s i
      rw [hgd] at hsu
      generalize r.orders[i] = o at hc hsu
      obtain ⟨f, t, k, y⟩ := o
      repeat' (refine OblP.mk ?_ (W.mk ?_); (first | trivial | omega | (simp only [inR]; omega) | exact Nat.le_of_ble_eq_true (by rfl) | exact SlR.some (by assumption) (by omega)); (conv => whnf))
      refine PurP.of _ (shr_by (s := s) (i := i) (by omega)) (W.mk ?_)
      (conv => whnf)
      refine OblP.mk ⟨by decide, Int.natCast_nonneg _⟩ (W.mk ?_)
      (conv => whnf)
      refine IteP.mk (fun hq => W.mk ?_) (fun hq => W.mk ?_) <;> (conv => whnf)
      · have hq : ((s / 2 ^ i : Nat) : Int) % 2 = 1 := hq
        have htb : s.testBit i = true := by
          cases h : s.testBit i with
          | true => rfl
          | false =>
            rw [h] at hbit
            simp only [Bool.false_eq_true, if_false] at hbit
            omega
        rw [if_pos htb] at hsu
        repeat' (first | (refine OblP.mk rfl (W.mk ?_); (conv => whnf)) | (refine OblP.mk ?_ (W.mk ?_); (first | trivial | omega | (simp only [inR]; omega) | exact Nat.le_of_ble_eq_true (by rfl) | exact SlR.some (by assumption) (by omega)); (conv => whnf)) | (first | (refine RdP.at (by assumption) (by rfl) (W.mk ?_); (conv => whnf)) | (refine RdP.sub (by assumption) (by rfl) (W.mk ?_); (conv => whnf)) | (refine RdP.sub2 (by assumption) (by rfl) (W.mk ?_); (conv => whnf)) | (refine RdP.sub3 (by assumption) (by rfl) (W.mk ?_); (conv => whnf))))
        refine RoundP.of (i + 1, n + 1, vs ++ [I f, I t, I k, I y]) (HeadP.of [(3, some 23)] ⟨rfl, rfl, rfl, rfl, rfl, trivial⟩ ⟨rfl, rfl, rfl, trivial⟩) ⟨by show i + 1 ≤ on; omega, ?_⟩ (by simp only; omega)
        rw [hsu]
        exact hrow.snoc (⟨f, t, k, y⟩ : Od)
      · have hq : ¬ ((s / 2 ^ i : Nat) : Int) % 2 = 1 := hq
        have htb : s.testBit i = false := by
          cases h : s.testBit i with
          | false => rfl
          | true =>
            rw [h] at hbit
            simp only [if_true] at hbit
            omega
        rw [if_neg (by rw [htb]; simp)] at hsu
        repeat' (first | (refine OblP.mk rfl (W.mk ?_); (conv => whnf)) | (refine OblP.mk ?_ (W.mk ?_); (first | trivial | omega | (simp only [inR]; omega) | exact Nat.le_of_ble_eq_true (by rfl) | exact SlR.some (by assumption) (by omega)); (conv => whnf)) | (first | (refine RdP.at (by assumption) (by rfl) (W.mk ?_); (conv => whnf)) | (refine RdP.sub (by assumption) (by rfl) (W.mk ?_); (conv => whnf)) | (refine RdP.sub2 (by assumption) (by rfl) (W.mk ?_); (conv => whnf)) | (refine RdP.sub3 (by assumption) (by rfl) (W.mk ?_); (conv => whnf))))
        refine RoundP.of (i + 1, n, vs) (HeadP.of [] ⟨rfl, rfl, rfl, rfl, rfl, trivial⟩ ⟨rfl, rfl, rfl, trivial⟩) ⟨by show i + 1 ≤ on; omega, ?_⟩ (by simp only; omega)
        rw [hsu]
        exact hrow
    · have : i = r.orders.length := by omega
      subst this
      have hrow : Row odE (sel r s).orders n vs := hrow
      refine LoopP.of { α := Nat × Option (Option Addr × Nat), fr := fun y => [(2, .v (I s)), (3, .c (.ptr 0 0)), (4, .c (.ptr 1 0)), (7, .c (.row 3 n)), (9, .v (I y.1))], H := fun y => [(0, .cells .anon [.val (.slice wa wn wc), .val (.slice oa on oc), .val (I r.cols)] 25), (1, .cells .anon [.val (I x.year), .val (.slice ma mn mc)] 28), (3, .row (y.2.map fun p => .slice p.1 n p.2) n vs 90 4)], ok := fun y G => y.1 ≤ wn ∧ (∀ j, j < y.1 → sameAt r x s j = true) ∧ ∀ p, y.2 = some p → SlV odE G (.slice p.1 n p.2) (sel r s).orders, m := fun y => wn - y.1 }
        (0, none) (HeadP.of [] ⟨rfl, rfl, rfl, rfl, rfl, trivial⟩ ⟨rfl, rfl, rfl, trivial⟩) ⟨Nat.zero_le _, fun j hj => by omega, fun p hp => by cases hp⟩ (fun _ => ⟨rfl, rfl⟩) (fun y G2 hg2 hx => W.mk ?_)
      obtain ⟨i, pb⟩ := y
      obtain ⟨hi2, hsame, hpub⟩ := hx
      dsimp only at hi2 hsame hpub
      have hrv : RpV G2 (.agg #[.slice wa wn wc, .slice oa on oc, I r.cols]) r := ⟨_, _, rfl, hrc.grow (hg1.trans hg2)⟩
      have hxv : RxV G2 (.agg #[I x.year, .slice ma mn mc]) x := ⟨_, rfl, hm.grow (hg1.trans hg2)⟩
      have hat : sameAt r x s i = (!hidF r x i || hidF (sel r s) x i) := rfl
      have hfin : sameAt r x s i = true → ∀ j, j < i + 1 → sameAt r x s j = true := fun h j hj => by
        rcases Nat.lt_succ_iff_lt_or_eq.1 hj with h2 | rfl
        · exact hsame j h2
        · exact h
      have hbad : i < r.words.length → sameAt r x s i = false → sameF r x s = false := fun h1 h2 => by
        rw [sameF, List.all_eq_false]
        exact ⟨i, List.mem_range.2 h1, by rw [h2]; simp⟩
      have hgood : i = r.words.length → sameF r x s = true := fun h => by
        rw [sameF, List.all_eq_true]
        exact fun j hj => hsame j (by have := List.mem_range.1 hj; omega)
      cases pb with
      | none =>
        dsimp only [Option.map]
        (conv => whnf)
        refine IteP.mk (fun hlt => W.mk ?_) (fun hge => W.mk ?_) <;> (conv => whnf)
        · have hlt2 : i < r.words.length := by omega
          repeat' (first | (refine OblP.mk ?_ (W.mk ?_); (first | trivial | omega | (simp only [inR]; omega) | exact Nat.le_of_ble_eq_true (by rfl) | exact SlR.some (by assumption) (by omega)); (conv => whnf)) | (first | (refine RdP.at (by assumption) (by rfl) (W.mk ?_); (conv => whnf)) | (refine RdP.sub (by assumption) (by rfl) (W.mk ?_); (conv => whnf)) | (refine RdP.sub2 (by assumption) (by rfl) (W.mk ?_); (conv => whnf)) | (refine RdP.sub3 (by assumption) (by rfl) (W.mk ?_); (conv => whnf))))
          refine ScaP.g (ok3 rpRd rxRd intRd fun r _ _ => ordB r) (x := (r, x, (i : Int))) ⟨_, _, _, rfl, hrv, hxv, rfl, hb⟩ (fun v hv => W.mk ?_)
          subst hv
          dsimp only
          (conv => whnf)
          refine ForkP.mk (fun hq => W.mk ?_) (fun hq => W.mk ?_) <;> (conv => whnf)
          · repeat' (first | (refine OblP.mk ?_ (W.mk ?_); (first | trivial | omega | (simp only [inR]; omega) | exact Nat.le_of_ble_eq_true (by rfl) | exact SlR.some (by assumption) (by omega)); (conv => whnf)) | (first | (refine RdP.at (by assumption) (by rfl) (W.mk ?_); (conv => whnf)) | (refine RdP.sub (by assumption) (by rfl) (W.mk ?_); (conv => whnf)) | (refine RdP.sub2 (by assumption) (by rfl) (W.mk ?_); (conv => whnf)) | (refine RdP.sub3 (by assumption) (by rfl) (W.mk ?_); (conv => whnf))))
            refine PubP.mk (fun a5 c5 G3 hg3 hp => W.mk ?_)
            have hL : SlV odE G3 (.slice a5 n c5) (sel r s).orders := hrow.pub hp (by omega)
            (conv => whnf)
            refine ScaP.g (ok3 rpRd rxRd intRd fun r _ _ => ordB r) (x := (sel r s, x, (i : Int))) ⟨_, _, _, rfl, ⟨_, _, rfl, hrc.w.grow ((hg1.trans hg2).trans hg3), hL⟩, rxRd.grow hg3 hxv, rfl, sel_ord hb⟩ (fun v hv => W.mk ?_)
            subst hv
            dsimp only
            (conv => whnf)
            refine ForkP.mk (fun hq2 => W.mk ?_) (fun hq2 => W.mk ?_) <;> (conv => whnf)
            · repeat' (first | (refine OblP.mk ?_ (W.mk ?_); (first | trivial | omega | (simp only [inR]; omega) | exact Nat.le_of_ble_eq_true (by rfl) | exact SlR.some (by assumption) (by omega)); (conv => whnf)) | (first | (refine RdP.at (by assumption) (by rfl) (W.mk ?_); (conv => whnf)) | (refine RdP.sub (by assumption) (by rfl) (W.mk ?_); (conv => whnf)) | (refine RdP.sub2 (by assumption) (by rfl) (W.mk ?_); (conv => whnf)) | (refine RdP.sub3 (by assumption) (by rfl) (W.mk ?_); (conv => whnf))))
              refine RoundP.of (i + 1, some (a5, c5)) (HeadP.of [] ⟨rfl, rfl, rfl, rfl, rfl, trivial⟩ ⟨rfl, rfl, rfl, trivial⟩) ⟨by show i + 1 ≤ wn; omega, hfin (by rw [hat, hq, hq2]; rfl), fun p hp => by cases hp; exact hL⟩ (by simp only; omega)
            · refine FinP.mk ?_
              refine congrArg Value.bool ?_
              exact (hbad hlt2 (by rw [hat, hq, hq2]; rfl)).symm
          · repeat' (first | (refine OblP.mk ?_ (W.mk ?_); (first | trivial | omega | (simp only [inR]; omega) | exact Nat.le_of_ble_eq_true (by rfl) | exact SlR.some (by assumption) (by omega)); (conv => whnf)) | (first | (refine RdP.at (by assumption) (by rfl) (W.mk ?_); (conv => whnf)) | (refine RdP.sub (by assumption) (by rfl) (W.mk ?_); (conv => whnf)) | (refine RdP.sub2 (by assumption) (by rfl) (W.mk ?_); (conv => whnf)) | (refine RdP.sub3 (by assumption) (by rfl) (W.mk ?_); (conv => whnf))))
            refine RoundP.of (i + 1, none) (HeadP.of [] ⟨rfl, rfl, rfl, rfl, rfl, trivial⟩ ⟨rfl, rfl, rfl, trivial⟩) ⟨by show i + 1 ≤ wn; omega, hfin (by rw [hat, hq]; rfl), fun p hp => by cases hp⟩ (by simp only; omega)
        · refine FinP.mk ?_
          refine congrArg Value.bool ?_
          exact (hgood (by omega)).symm
      | some p =>
        obtain ⟨a5, c5⟩ := p
        have hL : SlV odE G2 (.slice a5 n c5) (sel r s).orders := hpub _ rfl
        dsimp only [Option.map]
        (conv => whnf)
        refine IteP.mk (fun hlt => W.mk ?_) (fun hge => W.mk ?_) <;> (conv => whnf)
        · have hlt2 : i < r.words.length := by omega
          repeat' (first | (refine OblP.mk ?_ (W.mk ?_); (first | trivial | omega | (simp only [inR]; omega) | exact Nat.le_of_ble_eq_true (by rfl) | exact SlR.some (by assumption) (by omega)); (conv => whnf)) | (first | (refine RdP.at (by assumption) (by rfl) (W.mk ?_); (conv => whnf)) | (refine RdP.sub (by assumption) (by rfl) (W.mk ?_); (conv => whnf)) | (refine RdP.sub2 (by assumption) (by rfl) (W.mk ?_); (conv => whnf)) | (refine RdP.sub3 (by assumption) (by rfl) (W.mk ?_); (conv => whnf))))
          refine ScaP.g (ok3 rpRd rxRd intRd fun r _ _ => ordB r) (x := (r, x, (i : Int))) ⟨_, _, _, rfl, hrv, hxv, rfl, hb⟩ (fun v hv => W.mk ?_)
          subst hv
          dsimp only
          (conv => whnf)
          refine ForkP.mk (fun hq => W.mk ?_) (fun hq => W.mk ?_) <;> (conv => whnf)
          · repeat' (first | (refine OblP.mk ?_ (W.mk ?_); (first | trivial | omega | (simp only [inR]; omega) | exact Nat.le_of_ble_eq_true (by rfl) | exact SlR.some (by assumption) (by omega)); (conv => whnf)) | (first | (refine RdP.at (by assumption) (by rfl) (W.mk ?_); (conv => whnf)) | (refine RdP.sub (by assumption) (by rfl) (W.mk ?_); (conv => whnf)) | (refine RdP.sub2 (by assumption) (by rfl) (W.mk ?_); (conv => whnf)) | (refine RdP.sub3 (by assumption) (by rfl) (W.mk ?_); (conv => whnf))))
            refine ScaP.g (ok3 rpRd rxRd intRd fun r _ _ => ordB r) (x := (sel r s, x, (i : Int))) ⟨_, _, _, rfl, ⟨_, _, rfl, hrc.w.grow (hg1.trans hg2), hL⟩, hxv, rfl, sel_ord hb⟩ (fun v hv => W.mk ?_)
            subst hv
            dsimp only
            (conv => whnf)
            refine ForkP.mk (fun hq2 => W.mk ?_) (fun hq2 => W.mk ?_) <;> (conv => whnf)
            · repeat' (first | (refine OblP.mk ?_ (W.mk ?_); (first | trivial | omega | (simp only [inR]; omega) | exact Nat.le_of_ble_eq_true (by rfl) | exact SlR.some (by assumption) (by omega)); (conv => whnf)) | (first | (refine RdP.at (by assumption) (by rfl) (W.mk ?_); (conv => whnf)) | (refine RdP.sub (by assumption) (by rfl) (W.mk ?_); (conv => whnf)) | (refine RdP.sub2 (by assumption) (by rfl) (W.mk ?_); (conv => whnf)) | (refine RdP.sub3 (by assumption) (by rfl) (W.mk ?_); (conv => whnf))))
              refine RoundP.of (i + 1, some (a5, c5)) (HeadP.of [] ⟨rfl, rfl, rfl, rfl, rfl, trivial⟩ ⟨rfl, rfl, rfl, trivial⟩) ⟨by show i + 1 ≤ wn; omega, hfin (by rw [hat, hq, hq2]; rfl), fun p hp => by cases hp; exact hL⟩ (by simp only; omega)
            · refine FinP.mk ?_
              refine congrArg Value.bool ?_
              exact (hbad hlt2 (by rw [hat, hq, hq2]; rfl)).symm
          · repeat' (first | (refine OblP.mk ?_ (W.mk ?_); (first | trivial | omega | (simp only [inR]; omega) | exact Nat.le_of_ble_eq_true (by rfl) | exact SlR.some (by assumption) (by omega)); (conv => whnf)) | (first | (refine RdP.at (by assumption) (by rfl) (W.mk ?_); (conv => whnf)) | (refine RdP.sub (by assumption) (by rfl) (W.mk ?_); (conv => whnf)) | (refine RdP.sub2 (by assumption) (by rfl) (W.mk ?_); (conv => whnf)) | (refine RdP.sub3 (by assumption) (by rfl) (W.mk ?_); (conv => whnf))))
            refine RoundP.of (i + 1, some (a5, c5)) (HeadP.of [] ⟨rfl, rfl, rfl, rfl, rfl, trivial⟩ ⟨rfl, rfl, rfl, trivial⟩) ⟨by show i + 1 ≤ wn; omega, hfin (by rw [hat, hq]; rfl), fun p hp => by cases hp; exact hL⟩ (by simp only; omega)
        · refine FinP.mk ?_
          refine congrArg Value.bool ?_
          exact (hgood (by omega)).symm
end Go.Proofs.Ytpcpjmplgladmaa

namespace Go.Proofs.Ytpcpjmplgladmaa
open Go.Pal
set_option maxRecDepth 100000
theorem within51 : Sound Try.prog 51 id (.fn (fun args _ => ∃ n lo hi, args = [I n, I lo, I hi]) (fun args => match args with | [.int _ n, .int _ lo, .int _ hi] => .bool (inF n lo hi) | _ => undef)) := by
  refine comp51.fn (Tab.nil _) (fun args G h => ?_) (fun args G h => ?_)
  · obtain ⟨n, lo, hi, rfl⟩ := h; simp
  · obtain ⟨n, lo, hi, rfl⟩ := h
    (conv => whnf)
    repeat' (first | (refine IteP.mk (fun _ => W.mk ?_) (fun _ => W.mk ?_) <;> (conv => whnf)) | (refine OblP.mk ?_ (W.mk ?_); (first | trivial | omega | (simp only [inR]; omega) | exact Nat.le_of_ble_eq_true (by rfl) | exact SlR.some (by assumption) (by omega)); (conv => whnf)) | (refine ForkP.mk (fun _ => W.mk ?_) (fun _ => W.mk ?_) <;> (conv => whnf)) | (refine RdP.at (by assumption) (by rfl) (W.mk ?_); (conv => whnf)) | (refine RdP.sub (by assumption) (by rfl) (W.mk ?_); (conv => whnf)) | (refine RdP.sub2 (by assumption) (by rfl) (W.mk ?_); (conv => whnf)) | (refine RdP.sub3 (by assumption) (by rfl) (W.mk ?_); (conv => whnf)) | (refine FinP.mk ?_))
    all_goals (refine congrArg Value.bool ?_; simp [inF, *])
theorem year55 : Sound Try.prog 55 id (gsca (args1 intRd fun _ => True) fun y v => v = .bool (inF y 0 9999)) := by
  refine comp55.gsca (Tab.cons 51 _ within51 body51 (Tab.nil _)) (fun args G s h => ?_) (fun args G x h => ?_)
  · obtain ⟨v, rfl, _⟩ := h; simp
  · obtain ⟨v, rfl, rfl, _⟩ := h
    (conv => whnf)
    refine OblP.mk ⟨_, _, _, rfl⟩ (W.mk ?_); (conv => whnf)
    refine ForkP.mk (fun hq => W.mk ?_) (fun hq => W.mk ?_) <;> (conv => whnf) <;> exact FinP.mk (congrArg Value.bool hq.symm)
theorem rising67 : Sound Try.prog 67 id (gsca (args2 (slRd intE) intRd fun _ _ => True) fun x v => v = .bool (risM x.2 x.1)) := by
  refine comp67.gsca (Tab.cons 51 _ within51 body51 (Tab.nil _)) (fun args G s h => ?_) (fun args G x h => ?_)
  · obtain ⟨v, w, rfl, _⟩ := h; simp
  · obtain ⟨l, q⟩ := x
    obtain ⟨u, v, rfl, ⟨a, n, c, rfl, hl, hn⟩, rfl, _⟩ := h
    dsimp only at hl
    have hlen := hl.len
    dsimp only
    (conv => whnf)
    refine LoopP.of { α := Nat, fr := fun x => [(0, .v (.slice a n c)), (1, .v (I q)), (7, .v (.slice a n c)), (8, .v (I n)), (9, .v (I x))], H := fun _ => [], ok := fun i _ => i ≤ l.length ∧ ∀ k, k < i → risAt q l k = true, m := fun x => l.length - x }
      0 (HeadP.of [] ⟨rfl, rfl, rfl, rfl, rfl, trivial⟩ trivial) ⟨Nat.zero_le _, fun k hk => by omega⟩ (fun _ => ⟨rfl, rfl⟩) (fun (i : Nat) G' hG hx => W.mk ?_)
    obtain ⟨hi, hx⟩ := hx
    replace hl := SlR.grow (G := G) (G' := G') (fun _ _ h => h) hl hG
    dsimp only
    (conv => whnf)
    refine IteP.mk (fun hlt => W.mk ?_) (fun hge => W.mk ?_) <;> (conv => whnf)
    · have hlt : i < l.length := by omega
      have hc := hl.el hlt
      have hat : risAt q l i = (inF (l.getD i 0) 0 q && (decide (i = 0) || decide (l.getD (i - 1) 0 < l.getD i 0))) := rfl
      have fin : ∀ b, risAt q l i = b → b = true → ∀ k, k < i + 1 → risAt q l k = true := fun b h1 h2 k hk => by
        rcases Nat.lt_succ_iff_lt_or_eq.1 hk with h | rfl
        · exact hx k h
        · rw [h1, h2]
      rw [gd0 hlt] at hat
      repeat' (first | (refine OblP.mk ?_ (W.mk ?_); (first | trivial | omega | (simp only [inR]; omega) | exact Nat.le_of_ble_eq_true (by rfl) | exact SlR.some (by assumption) (by omega)); (conv => whnf)) | (first | (refine RdP.at (by assumption) (by rfl) (W.mk ?_); (conv => whnf)) | (refine RdP.sub (by assumption) (by rfl) (W.mk ?_); (conv => whnf)) | (refine RdP.sub2 (by assumption) (by rfl) (W.mk ?_); (conv => whnf)) | (refine RdP.sub3 (by assumption) (by rfl) (W.mk ?_); (conv => whnf))))
      refine OblP.mk ⟨_, _, _, rfl⟩ (W.mk ?_)
      (conv => whnf)
      refine ForkP.mk (fun hq => W.mk ?_) (fun hq => W.mk ?_) <;> (conv => whnf)
      · have hq : inF l[i] 0 q = true := hq
        rw [hq, Bool.true_and] at hat
        cases i with
        | zero =>
          repeat' (first | (refine IteP.mk (fun _ => W.mk ?_) (fun _ => W.mk ?_) <;> first | (exfalso; omega) | (conv => whnf)) | (refine OblP.mk ?_ (W.mk ?_); (first | trivial | omega | (simp only [inR]; omega) | exact Nat.le_of_ble_eq_true (by rfl) | exact SlR.some (by assumption) (by omega)); (conv => whnf)) | (first | (refine RdP.at (by assumption) (by rfl) (W.mk ?_); (conv => whnf)) | (refine RdP.sub (by assumption) (by rfl) (W.mk ?_); (conv => whnf)) | (refine RdP.sub2 (by assumption) (by rfl) (W.mk ?_); (conv => whnf)) | (refine RdP.sub3 (by assumption) (by rfl) (W.mk ?_); (conv => whnf))))
          refine RoundP.of 1 (HeadP.of [] ⟨rfl, rfl, rfl, rfl, rfl, trivial⟩ trivial) ⟨hlt, fin _ hat rfl⟩ (by simp only; omega)
        | succ k =>
          have hlk : k < l.length := by omega
          have hck := hl.el hlk
          rw [show k + 1 - 1 = k by omega, gd0 hlk] at hat
          have hck : CellsAt G' (ab a) (ao a + (((k + 1 : Nat) : Int) - 1).toNat * 1) (intE.f l[k]) := by
            rw [show (((k + 1 : Nat) : Int) - 1).toNat = k by omega]; exact hck
          refine IteP.mk (fun _ => W.mk ?_) (fun h => by exfalso; omega)
          (conv => whnf)
          repeat' (first | (refine OblP.mk ?_ (W.mk ?_); (first | trivial | omega | (simp only [inR]; omega) | exact Nat.le_of_ble_eq_true (by rfl) | exact SlR.some (by assumption) (by omega)); (conv => whnf)) | (first | (refine RdP.at (by assumption) (by rfl) (W.mk ?_); (conv => whnf)) | (refine RdP.sub (by assumption) (by rfl) (W.mk ?_); (conv => whnf)) | (refine RdP.sub2 (by assumption) (by rfl) (W.mk ?_); (conv => whnf)) | (refine RdP.sub3 (by assumption) (by rfl) (W.mk ?_); (conv => whnf))))
          generalize l[k] = p at hat ⊢
          generalize l[k + 1] = p2 at hat ⊢
          refine IteP.mk (fun h5 => W.mk ?_) (fun h5 => W.mk ?_) <;> (conv => whnf)
          · have h5 : p2 ≤ p := h5
            refine FinP.mk ?_
            refine congrArg Value.bool ?_
            refine (risM_false hlt ?_).symm
            rw [hat, decide_eq_false (by omega : ¬ k + 1 = 0), decide_eq_false (by omega : ¬ p < p2)]; rfl
          · have h5 : ¬ p2 ≤ p := h5
            repeat' (first | (refine OblP.mk ?_ (W.mk ?_); (first | trivial | omega | (simp only [inR]; omega) | exact Nat.le_of_ble_eq_true (by rfl) | exact SlR.some (by assumption) (by omega)); (conv => whnf)) | (first | (refine RdP.at (by assumption) (by rfl) (W.mk ?_); (conv => whnf)) | (refine RdP.sub (by assumption) (by rfl) (W.mk ?_); (conv => whnf)) | (refine RdP.sub2 (by assumption) (by rfl) (W.mk ?_); (conv => whnf)) | (refine RdP.sub3 (by assumption) (by rfl) (W.mk ?_); (conv => whnf))))
            refine RoundP.of (k + 2) (HeadP.of [] ⟨rfl, rfl, rfl, rfl, rfl, trivial⟩ trivial) ⟨hlt, fin _ hat ?_⟩ (by simp only; omega)
            rw [decide_eq_true (by omega : p < p2), Bool.or_true]
      · have hq : inF l[i] 0 q = false := hq
        rw [hq, Bool.false_and] at hat
        refine FinP.mk ?_
        refine congrArg Value.bool ?_
        exact (risM_false hlt hat).symm
    · have : i = l.length := by omega
      subst this
      refine FinP.mk ?_
      refine congrArg Value.bool ?_
      exact (risM_true hx).symm
def idxF (l : List Int) (q : Int) (k : Nat) : Int := match l with
  | [] => -1
  | r :: t => if q = r then (k : Int) else idxF t q (k + 1)
theorem idxF_has : ∀ (l : List Int) (q : Int) (k : Nat), decide (0 ≤ idxF l q k) = l.contains q
  | [], q, k => rfl
  | r :: t, q, k => by
    unfold idxF
    by_cases h : q = r
    · subst h; simp
    · rw [if_neg h, idxF_has t q (k + 1), List.contains_cons]
      have : (q == r) = false := by simpa using h
      rw [this, Bool.false_or]
theorem idx71 : Sound Try.prog 71 id (gsca (args2 (slRd intE) intRd fun _ _ => True) fun x v => v = I (idxF x.1 x.2 0)) := by
  refine comp71.gsca (Tab.nil _) (fun args G s h => ?_) (fun args G x h => ?_)
  · obtain ⟨v, w, rfl, _⟩ := h; simp
  · obtain ⟨l, q⟩ := x
    obtain ⟨u, v, rfl, ⟨a, n, c, rfl, hl, hn⟩, rfl, _⟩ := h
    dsimp only at hl
    have hlen := hl.len
    dsimp only
    (conv => whnf)
    refine LoopP.of { α := Nat, fr := fun x => [(0, .v (.slice a n c)), (1, .v (I q)), (7, .v (I n)), (8, .v (I x))], H := fun _ => [], ok := fun i _ => i ≤ l.length ∧ idxF (l.drop i) q i = idxF l q 0, m := fun x => l.length - x }
      0 (HeadP.of [] ⟨rfl, rfl, rfl, rfl, trivial⟩ trivial) ⟨Nat.zero_le _, rfl⟩ (fun _ => ⟨rfl, rfl⟩) (fun (i : Nat) G' hG hx => W.mk ?_)
    obtain ⟨hi, hx⟩ := hx
    replace hl := SlR.grow (G := G) (G' := G') (fun _ _ h => h) hl hG
    dsimp only
    (conv => whnf)
    refine IteP.mk (fun hlt => W.mk ?_) (fun hge => W.mk ?_) <;> (conv => whnf)
    · have hlt : i < l.length := by omega
      have hc := hl.el hlt
      rw [List.drop_eq_getElem_cons hlt, idxF] at hx
      repeat' (first | (refine OblP.mk ?_ (W.mk ?_); (first | trivial | omega | (simp only [inR]; omega) | exact Nat.le_of_ble_eq_true (by rfl) | exact SlR.some (by assumption) (by omega)); (conv => whnf)) | (first | (refine RdP.at (by assumption) (by rfl) (W.mk ?_); (conv => whnf)) | (refine RdP.sub (by assumption) (by rfl) (W.mk ?_); (conv => whnf)) | (refine RdP.sub2 (by assumption) (by rfl) (W.mk ?_); (conv => whnf)) | (refine RdP.sub3 (by assumption) (by rfl) (W.mk ?_); (conv => whnf))))
      refine IteP.mk (fun hq => W.mk ?_) (fun hq => W.mk ?_) <;> (conv => whnf)
      · refine FinP.mk ?_
        rw [if_pos hq] at hx
        show I (i : Int) = I (idxF l q 0); rw [← hx]
      · (refine OblP.mk ?_ (W.mk ?_); (first | trivial | omega | (simp only [inR]; omega) | exact Nat.le_of_ble_eq_true (by rfl) | exact SlR.some (by assumption) (by omega)); (conv => whnf))
        rw [if_neg hq] at hx
        exact RoundP.of (i + 1) (HeadP.of [] ⟨rfl, rfl, rfl, rfl, trivial⟩ trivial) ⟨hlt, hx⟩ (by simp only; omega)
    · have : i = l.length := by omega
      subst this
      rw [List.drop_length] at hx
      refine FinP.mk ?_
      show I (-1) = I (idxF l q 0); rw [← hx]; rfl
theorem con46 : Sound Try.prog 46 id (gsca (args2 (slRd intE) intRd fun _ _ => True) fun x v => v = .bool (x.1.contains x.2)) := by
  refine comp46.gsca (Tab.cons 71 _ idx71 body71 (Tab.nil _)) (fun args G s h => ?_) (fun args G x h => ?_)
  · obtain ⟨v, w, rfl, _⟩ := h; simp
  · obtain ⟨l, q⟩ := x
    obtain ⟨u, v, rfl, ⟨a, n, c, rfl, hl, hn⟩, rfl, _⟩ := h
    dsimp only at hl
    dsimp only
    (conv => whnf)
    refine ScaP.g (ok2 (slRd intE) intRd fun _ _ => True) (x := (l, q)) ⟨_, _, rfl, ⟨a, n, c, rfl, hl, hn⟩, rfl, trivial⟩ (fun v hv => W.mk ?_)
    subst hv
    dsimp only
    have hh := idxF_has l q 0
    (conv => whnf)
    refine IteP.mk (fun hq => W.mk ?_) (fun hq => W.mk ?_) <;> (conv => whnf) <;> refine FinP.mk ?_ <;> refine congrArg Value.bool ?_ <;> rw [← hh] <;> simp [hq]

/-! ### A reader before a report -/
/-- The cells of which words are hidden: each one is seen where the function is not known. -/
abbrev vll (p : Nat → Bool) : List Value := (List.range 60).map fun i => .bool (p i)
theorem vll_get {p : Nat → Bool} {i : Nat} (h : i < 60) : (vll p)[i]? = some (.bool (p i)) := by
  simp [vll, h]
structure Rg where
  r : Rp
  x : Rx
  p : Nat → Bool
abbrev rgl (w o m : Value) (c y : Int) (p : Nat → Bool) : List Value := [w, o, I c, I y, m] ++ vll p
structure RgC (G : Hp) (w o m : Value) (g : Rg) : Prop where
  rp : RpC G w o g.r
  may : SlV intE G m g.x.may
  hi : ∀ i, 60 ≤ i → g.p i = false
theorem RgC.grow {G G' : Hp} (hg : Grow G G') {w o m : Value} {g : Rg} (h : RgC G w o m g) : RgC G' w o m g := ⟨h.rp.grow hg, h.may.grow hg, h.hi⟩
def RgV (G : Hp) (v : Value) (g : Rg) : Prop := ∃ w o m, v = .agg (rgl w o m g.r.cols g.x.year g.p).toArray ∧ RgC G w o m g
theorem vll_inj {p q : Nat → Bool} (h : vll p = vll q) (hp : ∀ i, 60 ≤ i → p i = false) (hq : ∀ i, 60 ≤ i → q i = false) : p = q := by
  funext i
  by_cases hi : i < 60
  · have := congrArg (·[i]?) h
    simp only [vll_get hi, Option.some.injEq, Value.bool.injEq] at this
    exact this
  · rw [hp i (by omega), hq i (by omega)]
def rgRd : Rd Rg := ⟨RgV, fun {_ _ x y} ⟨w, o, m, h, h1⟩ ⟨w', o', m', h', h1'⟩ => by
    rw [h] at h'
    have h' := congrArg Array.toList (Value.agg.inj h')
    have h' : [w, o, I x.r.cols, I x.x.year, m] ++ vll x.p = [w', o', I y.r.cols, I y.x.year, m'] ++ vll y.p := h'
    obtain ⟨e1, e2⟩ := List.append_inj h' rfl
    simp only [List.cons.injEq, Value.int.injEq, true_and, and_true] at e1
    obtain ⟨e3, e4, e5, e6, e7⟩ := e1
    subst e3 e4 e7
    have a1 : x.r = y.r := rpRd.uniq ⟨_, _, rfl, h1.rp⟩ ⟨w, o, by rw [e5], h1'.rp⟩
    have a2 : x.x = y.x := rxRd.uniq ⟨_, rfl, h1.may⟩ ⟨m, by rw [e6], h1'.may⟩
    have a3 := vll_inj e2 h1.hi h1'.hi
    cases x; cases y; simp_all, fun hg ⟨w, o, m, h, h1⟩ => ⟨w, o, m, h, h1.grow hg⟩⟩
def shutsF (x : Rx) (o : Od) : Bool := !x.may.contains o.k
theorem shuts50 : Sound Try.prog 50 id (gsca (args2 rgRd odRd fun _ _ => True) fun p v => v = .bool (shutsF p.1.x p.2)) := by
  refine comp50.gsca (Tab.cons 46 _ con46 body46 (Tab.nil _)) (fun args G s h => ?_) (fun args G x h => ?_)
  · obtain ⟨v, w, rfl, _⟩ := h; simp
  · obtain ⟨g, o⟩ := x
    obtain ⟨u, v, rfl, ⟨w, ov, m, rfl, hc⟩, rfl, _⟩ := h
    dsimp only at hc
    dsimp only
    have hm := hc.may
    obtain ⟨x0, y0, z0, rfl, lws, yws⟩ := id hc.rp.w
    obtain ⟨x1, y1, z1, rfl, los, yos⟩ := id hc.rp.o
    obtain ⟨x2, y2, z2, rfl, lms, yms⟩ := id hc.may
    (conv => whnf)
    refine ScaP.g (ok2 (slRd intE) intRd fun _ _ => True) (x := (g.x.may, o.k)) ⟨_, _, rfl, hm, rfl, trivial⟩ (fun v hv => W.mk ?_)
    subst hv
    dsimp only
    (conv => whnf)
    refine ForkP.mk (fun hq => W.mk ?_) (fun hq => W.mk ?_) <;> (conv => whnf) <;> refine FinP.mk ?_ <;> refine congrArg Value.bool ?_ <;> unfold shutsF <;> rw [show g.x.may.contains o.k = _ from hq] <;> rfl
theorem holds68 : Sound Try.prog 68 id (gsca (args2 rgRd odRd fun _ _ => True) fun p v => v = .bool (holdsF p.2 p.1.x)) := by
  refine comp68.gsca (Tab.cons 50 _ shuts50 body50 (Tab.nil _)) (fun args G s h => ?_) (fun args G x h => ?_)
  · obtain ⟨v, w, rfl, _⟩ := h; simp
  · obtain ⟨g, o⟩ := x
    obtain ⟨u, v, rfl, ⟨w, ov, m, rfl, hc⟩, rfl, _⟩ := h
    dsimp only at hc
    dsimp only
    have hq0 : RgV G (.agg (rgl w ov m g.r.cols g.x.year g.p).toArray) g := ⟨_, _, _, rfl, hc⟩
    obtain ⟨x0, y0, z0, rfl, lws, yws⟩ := id hc.rp.w
    obtain ⟨x1, y1, z1, rfl, los, yos⟩ := id hc.rp.o
    obtain ⟨x2, y2, z2, rfl, lms, yms⟩ := id hc.may
    (conv => whnf)
    refine IteP.mk (fun h1 => W.mk ?_) (fun h1 => W.mk ?_) <;> (conv => whnf)
    · have h1 : g.x.year < o.u := h1
      refine ScaP.g (ok2 rgRd odRd fun _ _ => True) (x := (g, o)) ⟨_, _, rfl, hq0, rfl, trivial⟩ (fun v hv => W.mk ?_)
      subst hv
      dsimp only
      (conv => whnf)
      refine ForkP.mk (fun hq => W.mk ?_) (fun hq => W.mk ?_) <;> (conv => whnf) <;> refine FinP.mk ?_ <;> refine congrArg Value.bool ?_ <;> show _ = (decide (g.x.year < o.u) && shutsF g.x o) <;> rw [show shutsF g.x o = _ from hq, decide_eq_true h1] <;> rfl
    · have h1 : ¬ g.x.year < o.u := h1
      refine FinP.mk ?_
      refine congrArg Value.bool ?_
      show false = (decide (g.x.year < o.u) && shutsF g.x o)
      rw [decide_eq_false h1]; rfl
end Go.Proofs.Ytpcpjmplgladmaa
