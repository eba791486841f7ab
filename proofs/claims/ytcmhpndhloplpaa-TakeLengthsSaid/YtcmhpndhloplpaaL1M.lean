/- The work: who may take the next. -/
import Derived.Test.YtcmhpndhloplpaaL1L
namespace Go.Proofs.Ytcmhpndhloplpaa
open Go.Pal

set_option maxRecDepth 100000

def tabM : Tab Try.prog := Tab.cons 57 _ begin57 body57 tabL
def takeN (x : Wk) (n : Nat) : Span := x.t.getD n ⟨0, 0⟩
def hadN (s : Stt) (i : Nat) : Int := s.had.getD i (-1)
def restN (x : Wk) (i : Nat) : Int := (x.o.crew.getD i ⟨0, 0, 0⟩).rest
def mayF (x : Wk) (s : Stt) (i : Nat) : Bool := decide (doneW x s.n i ≤ (takeN x s.n).to + x.o.due) && (decide (hadN s i = -1) || decide (doneW x (hadN s i).toNat i + restN x i ≤ (takeN x s.n).fr))
def HadOk (x : Wk) (s : Stt) : Prop := ∀ j ∈ s.had, j = -1 ∨ (0 ≤ j ∧ j < x.t.length)
theorem HadOk.at {x : Wk} {s : Stt} (h : HadOk x s) {i : Nat} (hi : i < 5) : hadN s i = -1 ∨ (0 ≤ hadN s i ∧ hadN s i < x.t.length) := by
  have hlt : i < s.had.length := by rw [s.five]; exact hi
  have : hadN s i = s.had[i] := by simp [hadN, hlt]
  rw [this]; exact h _ (List.getElem_mem hlt)
abbrev I64 (n : Nat) : Int := n
theorem may53 : Sound Try.prog 53 id (gsca (args3 workRd sttRd natRd fun x s i => Fine x ∧ s.n < x.t.length ∧ i < x.o.crew.length ∧ x.o.crew.length ≤ 5 ∧ HadOk x s) fun x v => v = .bool (mayF x.1 x.2.1 x.2.2)) := by
  refine comp53.gsca tabM (fun args G s h => ?_) (fun args G x h => ?_)
  · obtain ⟨u, v, w, rfl, _⟩ := h; simp
  · obtain ⟨x, s, i⟩ := x
    obtain ⟨u, v, w, rfl, hw, rfl, rfl, hf, hn, hi, h5, hh⟩ := h
    simp only at hf hn hi h5 hh hw
    have hw0 := hw
    obtain ⟨b, w1, w2, w3, rfl, c, ⟨a1, n1, c1, rfl, l1, hn1⟩, ⟨a2, n2, c2, rfl, l2, hn2⟩, ⟨a3, n3, c3, rfl, l3, hn3⟩⟩ := hw
    have e2 := l2.len
    have e3 := l3.len
    have k2 := l2.el hi
    have k3 := l3.el hn
    have f3 := hf.t _ (List.getElem_mem hn)
    have f2 := hf.r _ (List.getElem_mem hi)
    have hat := hh.at (i := i) (by omega)
    have hhad : ∀ j, hadN s i = (j : Int) → j = -1 ∨ 0 ≤ j := fun j e => by omega
    have et : takeN x s.n = x.t[s.n] := by simp [takeN, hn]
    have er : restN x i = x.o.crew[i].rest := by simp [restN, hi]
    have hb1 : -2000000000000 ≤ doneW x s.n i ∧ doneW x s.n i ≤ 2000000000000 := by
      have := done_bd (p := x.t[s.n]) (s := ⟨x.o.crew[i].hi, x.o.delay⟩) f3.1 f3.2 f2.2.1 hf.delay
      simpa [doneW, hn, hi] using this
    obtain ⟨m, y0, y1, y2, y3, y4, h5', e⟩ := Stt.cases s
    have em : s.n = m := by rw [e]
    subst em
    rw [e]
    dsimp only
    (conv => whnf)
    refine ScaP.g (ok3 workRd natRd natRd fun x n i => Fine x ∧ n < x.t.length ∧ i < x.o.crew.length) (x := (x, s.n, i)) ⟨_, _, _, rfl, hw0, rfl, rfl, hf, hn, hi⟩ (fun v hv => W.mk ?_)
    subst hv
    (conv => whnf)
    have hd := hf.due
    repeat' (first | (refine OblP.mk ?_ (W.mk ?_); (first | trivial | omega | (simp only [inR]; omega) | exact Nat.le_of_ble_eq_true (by rfl) | exact SlR.some (by assumption) (by omega)); (conv => whnf)) | (first | (refine RdP.at (by assumption) (by rfl) (W.mk ?_); (conv => whnf)) | (refine RdP.sub (by assumption) (by rfl) (W.mk ?_); (conv => whnf)) | (refine RdP.sub2 (by assumption) (by rfl) (W.mk ?_); (conv => whnf)) | (refine RdP.sub3 (by assumption) (by rfl) (W.mk ?_); (conv => whnf))))
    refine IteP.mk (fun hb2 => W.mk ?_) (fun hb2 => W.mk ?_) <;> (conv => whnf)
    · refine FinP.mk ?_
      have : mayF x s i = false := by
        simp only [mayF, Bool.and_eq_false_iff, decide_eq_false_iff_not, et]
        left
        simp only at hb2
        omega
      rw [← e, this]; rfl
    · simp only at hb2
      have hmay : mayF x s i = (decide (hadN s i = -1) || decide (doneW x (hadN s i).toNat i + restN x i ≤ (takeN x s.n).fr)) := by
        have : decide (doneW x s.n i ≤ (takeN x s.n).to + x.o.due) = true := by rw [decide_eq_true_eq, et]; omega
        rw [mayF, this, Bool.true_and]
      rw [et, er] at hmay
      have i5 : i = 0 ∨ i = 1 ∨ i = 2 ∨ i = 3 ∨ i = 4 := by omega
      have fin : ∀ y : Int, hadN s i = y → y ≠ -1 → ∃ hl : y.toNat < x.t.length, y = I64 y.toNat ∧ -2000000000000 ≤ doneW x y.toNat i ∧ doneW x y.toNat i ≤ 2000000000000 := fun y hy hne => by
        have hl : y.toNat < x.t.length := by omega
        have f3 := hf.t _ (List.getElem_mem hl)
        have := done_bd (p := x.t[y.toNat]) (s := ⟨x.o.crew[i].hi, x.o.delay⟩) f3.1 f3.2 f2.2.1 hf.delay
        exact ⟨hl, by simp only [I64]; omega, by simpa [doneW, hl, hi] using this⟩
      have hyk : ∀ k y, i = k → [y0, y1, y2, y3, y4][k]? = some y → hadN s i = y := fun k y e1 e2 => by
        subst e1; rw [e]; simp only [hadN, List.getD_eq_getElem?_getD, e2, Option.getD_some]
      rcases i5 with rfl | rfl | rfl | rfl | rfl
      · replace fin := fin y0 (hyk 0 y0 rfl rfl)
        rw [hyk 0 y0 rfl rfl] at hmay
        rw [hyk 0 y0 rfl rfl] at hat
        clear hhad
        (refine OblP.mk ?_ (W.mk ?_); (first | trivial | omega | (simp only [inR]; omega) | exact Nat.le_of_ble_eq_true (by rfl) | exact SlR.some (by assumption) (by omega)); (conv => whnf))
        refine EqsP.mk ⟨[.val (I y0)], rfl, rfl, W.mk ?_⟩
        (conv => whnf)
        refine IteP.mk (fun hm1 => W.mk ?_) (fun hm1 => W.mk ?_) <;> (conv => whnf)
        · refine FinP.mk ?_
          rw [hm1] at hmay
          rw [← e, hmay]; rfl
        · obtain ⟨hl, hyn, hb3, hb4⟩ := fin hm1
          repeat' (first | (refine OblP.mk ?_ (W.mk ?_); (first | trivial | omega | (simp only [inR]; omega) | exact Nat.le_of_ble_eq_true (by rfl) | exact SlR.some (by assumption) (by omega)); (conv => whnf)) | (first | (refine RdP.at (by assumption) (by rfl) (W.mk ?_); (conv => whnf)) | (refine RdP.sub (by assumption) (by rfl) (W.mk ?_); (conv => whnf)) | (refine RdP.sub2 (by assumption) (by rfl) (W.mk ?_); (conv => whnf)) | (refine RdP.sub3 (by assumption) (by rfl) (W.mk ?_); (conv => whnf))))
          refine ScaP.g (ok3 workRd natRd natRd fun x n i => Fine x ∧ n < x.t.length ∧ i < x.o.crew.length) (x := (x, y0.toNat, 0)) ⟨_, _, _, rfl, hw0, congrArg I hyn, rfl, hf, hl, hi⟩ (fun v hv => W.mk ?_)
          subst hv
          dsimp only
          (conv => whnf)
          repeat' (first | (refine OblP.mk ?_ (W.mk ?_); (first | trivial | omega | (simp only [inR]; omega) | exact Nat.le_of_ble_eq_true (by rfl) | exact SlR.some (by assumption) (by omega)); (conv => whnf)) | (first | (refine RdP.at (by assumption) (by rfl) (W.mk ?_); (conv => whnf)) | (refine RdP.sub (by assumption) (by rfl) (W.mk ?_); (conv => whnf)) | (refine RdP.sub2 (by assumption) (by rfl) (W.mk ?_); (conv => whnf)) | (refine RdP.sub3 (by assumption) (by rfl) (W.mk ?_); (conv => whnf))))
          refine IteP.mk (fun hm2 => W.mk ?_) (fun hm2 => W.mk ?_) <;> (conv => whnf)
          · refine FinP.mk ?_
            rw [decide_eq_false hm1, decide_eq_true (by omega)] at hmay
            rw [← e, hmay]; rfl
          · refine FinP.mk ?_
            rw [decide_eq_false hm1, decide_eq_false (by omega)] at hmay
            rw [← e, hmay]; rfl
      · replace fin := fin y1 (hyk 1 y1 rfl rfl)
        rw [hyk 1 y1 rfl rfl] at hmay
        rw [hyk 1 y1 rfl rfl] at hat
        clear hhad
        (refine OblP.mk ?_ (W.mk ?_); (first | trivial | omega | (simp only [inR]; omega) | exact Nat.le_of_ble_eq_true (by rfl) | exact SlR.some (by assumption) (by omega)); (conv => whnf))
        refine EqsP.mk ⟨[.val (I y1)], rfl, rfl, W.mk ?_⟩
        (conv => whnf)
        refine IteP.mk (fun hm1 => W.mk ?_) (fun hm1 => W.mk ?_) <;> (conv => whnf)
        · refine FinP.mk ?_
          rw [hm1] at hmay
          rw [← e, hmay]; rfl
        · obtain ⟨hl, hyn, hb3, hb4⟩ := fin hm1
          repeat' (first | (refine OblP.mk ?_ (W.mk ?_); (first | trivial | omega | (simp only [inR]; omega) | exact Nat.le_of_ble_eq_true (by rfl) | exact SlR.some (by assumption) (by omega)); (conv => whnf)) | (first | (refine RdP.at (by assumption) (by rfl) (W.mk ?_); (conv => whnf)) | (refine RdP.sub (by assumption) (by rfl) (W.mk ?_); (conv => whnf)) | (refine RdP.sub2 (by assumption) (by rfl) (W.mk ?_); (conv => whnf)) | (refine RdP.sub3 (by assumption) (by rfl) (W.mk ?_); (conv => whnf))))
          refine ScaP.g (ok3 workRd natRd natRd fun x n i => Fine x ∧ n < x.t.length ∧ i < x.o.crew.length) (x := (x, y1.toNat, 1)) ⟨_, _, _, rfl, hw0, congrArg I hyn, rfl, hf, hl, hi⟩ (fun v hv => W.mk ?_)
          subst hv
          dsimp only
          (conv => whnf)
          repeat' (first | (refine OblP.mk ?_ (W.mk ?_); (first | trivial | omega | (simp only [inR]; omega) | exact Nat.le_of_ble_eq_true (by rfl) | exact SlR.some (by assumption) (by omega)); (conv => whnf)) | (first | (refine RdP.at (by assumption) (by rfl) (W.mk ?_); (conv => whnf)) | (refine RdP.sub (by assumption) (by rfl) (W.mk ?_); (conv => whnf)) | (refine RdP.sub2 (by assumption) (by rfl) (W.mk ?_); (conv => whnf)) | (refine RdP.sub3 (by assumption) (by rfl) (W.mk ?_); (conv => whnf))))
          refine IteP.mk (fun hm2 => W.mk ?_) (fun hm2 => W.mk ?_) <;> (conv => whnf)
          · refine FinP.mk ?_
            rw [decide_eq_false hm1, decide_eq_true (by omega)] at hmay
            rw [← e, hmay]; rfl
          · refine FinP.mk ?_
            rw [decide_eq_false hm1, decide_eq_false (by omega)] at hmay
            rw [← e, hmay]; rfl
      · replace fin := fin y2 (hyk 2 y2 rfl rfl)
        rw [hyk 2 y2 rfl rfl] at hmay
        rw [hyk 2 y2 rfl rfl] at hat
        clear hhad
        (refine OblP.mk ?_ (W.mk ?_); (first | trivial | omega | (simp only [inR]; omega) | exact Nat.le_of_ble_eq_true (by rfl) | exact SlR.some (by assumption) (by omega)); (conv => whnf))
        refine EqsP.mk ⟨[.val (I y2)], rfl, rfl, W.mk ?_⟩
        (conv => whnf)
        refine IteP.mk (fun hm1 => W.mk ?_) (fun hm1 => W.mk ?_) <;> (conv => whnf)
        · refine FinP.mk ?_
          rw [hm1] at hmay
          rw [← e, hmay]; rfl
        · obtain ⟨hl, hyn, hb3, hb4⟩ := fin hm1
          repeat' (first | (refine OblP.mk ?_ (W.mk ?_); (first | trivial | omega | (simp only [inR]; omega) | exact Nat.le_of_ble_eq_true (by rfl) | exact SlR.some (by assumption) (by omega)); (conv => whnf)) | (first | (refine RdP.at (by assumption) (by rfl) (W.mk ?_); (conv => whnf)) | (refine RdP.sub (by assumption) (by rfl) (W.mk ?_); (conv => whnf)) | (refine RdP.sub2 (by assumption) (by rfl) (W.mk ?_); (conv => whnf)) | (refine RdP.sub3 (by assumption) (by rfl) (W.mk ?_); (conv => whnf))))
          refine ScaP.g (ok3 workRd natRd natRd fun x n i => Fine x ∧ n < x.t.length ∧ i < x.o.crew.length) (x := (x, y2.toNat, 2)) ⟨_, _, _, rfl, hw0, congrArg I hyn, rfl, hf, hl, hi⟩ (fun v hv => W.mk ?_)
          subst hv
          dsimp only
          (conv => whnf)
          repeat' (first | (refine OblP.mk ?_ (W.mk ?_); (first | trivial | omega | (simp only [inR]; omega) | exact Nat.le_of_ble_eq_true (by rfl) | exact SlR.some (by assumption) (by omega)); (conv => whnf)) | (first | (refine RdP.at (by assumption) (by rfl) (W.mk ?_); (conv => whnf)) | (refine RdP.sub (by assumption) (by rfl) (W.mk ?_); (conv => whnf)) | (refine RdP.sub2 (by assumption) (by rfl) (W.mk ?_); (conv => whnf)) | (refine RdP.sub3 (by assumption) (by rfl) (W.mk ?_); (conv => whnf))))
          refine IteP.mk (fun hm2 => W.mk ?_) (fun hm2 => W.mk ?_) <;> (conv => whnf)
          · refine FinP.mk ?_
            rw [decide_eq_false hm1, decide_eq_true (by omega)] at hmay
            rw [← e, hmay]; rfl
          · refine FinP.mk ?_
            rw [decide_eq_false hm1, decide_eq_false (by omega)] at hmay
            rw [← e, hmay]; rfl
      · replace fin := fin y3 (hyk 3 y3 rfl rfl)
        rw [hyk 3 y3 rfl rfl] at hmay
        rw [hyk 3 y3 rfl rfl] at hat
        clear hhad
        (refine OblP.mk ?_ (W.mk ?_); (first | trivial | omega | (simp only [inR]; omega) | exact Nat.le_of_ble_eq_true (by rfl) | exact SlR.some (by assumption) (by omega)); (conv => whnf))
        refine EqsP.mk ⟨[.val (I y3)], rfl, rfl, W.mk ?_⟩
        (conv => whnf)
        refine IteP.mk (fun hm1 => W.mk ?_) (fun hm1 => W.mk ?_) <;> (conv => whnf)
        · refine FinP.mk ?_
          rw [hm1] at hmay
          rw [← e, hmay]; rfl
        · obtain ⟨hl, hyn, hb3, hb4⟩ := fin hm1
          repeat' (first | (refine OblP.mk ?_ (W.mk ?_); (first | trivial | omega | (simp only [inR]; omega) | exact Nat.le_of_ble_eq_true (by rfl) | exact SlR.some (by assumption) (by omega)); (conv => whnf)) | (first | (refine RdP.at (by assumption) (by rfl) (W.mk ?_); (conv => whnf)) | (refine RdP.sub (by assumption) (by rfl) (W.mk ?_); (conv => whnf)) | (refine RdP.sub2 (by assumption) (by rfl) (W.mk ?_); (conv => whnf)) | (refine RdP.sub3 (by assumption) (by rfl) (W.mk ?_); (conv => whnf))))
          refine ScaP.g (ok3 workRd natRd natRd fun x n i => Fine x ∧ n < x.t.length ∧ i < x.o.crew.length) (x := (x, y3.toNat, 3)) ⟨_, _, _, rfl, hw0, congrArg I hyn, rfl, hf, hl, hi⟩ (fun v hv => W.mk ?_)
          subst hv
          dsimp only
          (conv => whnf)
          repeat' (first | (refine OblP.mk ?_ (W.mk ?_); (first | trivial | omega | (simp only [inR]; omega) | exact Nat.le_of_ble_eq_true (by rfl) | exact SlR.some (by assumption) (by omega)); (conv => whnf)) | (first | (refine RdP.at (by assumption) (by rfl) (W.mk ?_); (conv => whnf)) | (refine RdP.sub (by assumption) (by rfl) (W.mk ?_); (conv => whnf)) | (refine RdP.sub2 (by assumption) (by rfl) (W.mk ?_); (conv => whnf)) | (refine RdP.sub3 (by assumption) (by rfl) (W.mk ?_); (conv => whnf))))
          refine IteP.mk (fun hm2 => W.mk ?_) (fun hm2 => W.mk ?_) <;> (conv => whnf)
          · refine FinP.mk ?_
            rw [decide_eq_false hm1, decide_eq_true (by omega)] at hmay
            rw [← e, hmay]; rfl
          · refine FinP.mk ?_
            rw [decide_eq_false hm1, decide_eq_false (by omega)] at hmay
            rw [← e, hmay]; rfl
      · replace fin := fin y4 (hyk 4 y4 rfl rfl)
        rw [hyk 4 y4 rfl rfl] at hmay
        rw [hyk 4 y4 rfl rfl] at hat
        clear hhad
        (refine OblP.mk ?_ (W.mk ?_); (first | trivial | omega | (simp only [inR]; omega) | exact Nat.le_of_ble_eq_true (by rfl) | exact SlR.some (by assumption) (by omega)); (conv => whnf))
        refine EqsP.mk ⟨[.val (I y4)], rfl, rfl, W.mk ?_⟩
        (conv => whnf)
        refine IteP.mk (fun hm1 => W.mk ?_) (fun hm1 => W.mk ?_) <;> (conv => whnf)
        · refine FinP.mk ?_
          rw [hm1] at hmay
          rw [← e, hmay]; rfl
        · obtain ⟨hl, hyn, hb3, hb4⟩ := fin hm1
          repeat' (first | (refine OblP.mk ?_ (W.mk ?_); (first | trivial | omega | (simp only [inR]; omega) | exact Nat.le_of_ble_eq_true (by rfl) | exact SlR.some (by assumption) (by omega)); (conv => whnf)) | (first | (refine RdP.at (by assumption) (by rfl) (W.mk ?_); (conv => whnf)) | (refine RdP.sub (by assumption) (by rfl) (W.mk ?_); (conv => whnf)) | (refine RdP.sub2 (by assumption) (by rfl) (W.mk ?_); (conv => whnf)) | (refine RdP.sub3 (by assumption) (by rfl) (W.mk ?_); (conv => whnf))))
          refine ScaP.g (ok3 workRd natRd natRd fun x n i => Fine x ∧ n < x.t.length ∧ i < x.o.crew.length) (x := (x, y4.toNat, 4)) ⟨_, _, _, rfl, hw0, congrArg I hyn, rfl, hf, hl, hi⟩ (fun v hv => W.mk ?_)
          subst hv
          dsimp only
          (conv => whnf)
          repeat' (first | (refine OblP.mk ?_ (W.mk ?_); (first | trivial | omega | (simp only [inR]; omega) | exact Nat.le_of_ble_eq_true (by rfl) | exact SlR.some (by assumption) (by omega)); (conv => whnf)) | (first | (refine RdP.at (by assumption) (by rfl) (W.mk ?_); (conv => whnf)) | (refine RdP.sub (by assumption) (by rfl) (W.mk ?_); (conv => whnf)) | (refine RdP.sub2 (by assumption) (by rfl) (W.mk ?_); (conv => whnf)) | (refine RdP.sub3 (by assumption) (by rfl) (W.mk ?_); (conv => whnf))))
          refine IteP.mk (fun hm2 => W.mk ?_) (fun hm2 => W.mk ?_) <;> (conv => whnf)
          · refine FinP.mk ?_
            rw [decide_eq_false hm1, decide_eq_true (by omega)] at hmay
            rw [← e, hmay]; rfl
          · refine FinP.mk ?_
            rw [decide_eq_false hm1, decide_eq_false (by omega)] at hmay
            rw [← e, hmay]; rfl
end Go.Proofs.Ytcmhpndhloplpaa
