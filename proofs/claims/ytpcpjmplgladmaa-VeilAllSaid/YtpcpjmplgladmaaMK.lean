/- Layer 9: what is drawn, with no bounds; few; the statements' copies; the error. Layer 9: reports and readers for the program. Layer 9: the view (the reference) is the program's. Layer 9: what is shut (the reference) is the program's. Layer 9: the index (the reference) is the program's. Layer 9: the drawn values, opened. -/
import Derived.Test.YtpcpjmplgladmaaMJ
import Derived.Test.YtpcpjmplgladmaaMC
import Derived.Test.YtpcpjmplgladmaaRows
set_option linter.unusedSimpArgs false
set_option linter.unusedVariables false
namespace Go.Proofs.Ytpcpjmplgladmaa
open Go.Pal Go.RowKit
set_option maxRecDepth 100000
def SlU {α : Type} (e : El α) (G : Hp) (v : Value) (l : List α) : Prop := ∃ a n c, v = .slice a n c ∧ SlR e.k e.R G a n c l ∧ n ≤ maxLen
theorem SlU.uniq {α : Type} {e : El α} {G : Hp} {v : Value} {x y : List α} (h : SlU e G v x) (h' : SlU e G v y) : x = y := by
  obtain ⟨a, n, c, rfl, h, _⟩ := h
  obtain ⟨a', n', c', e', h', _⟩ := h'
  cases e'
  exact h.uniq (fun cs x y h1 h2 => e.inj (h1.symm.trans h2)) h'
theorem SlU.grow {α : Type} {e : El α} {G G' : Hp} {v : Value} {x : List α} (hg : Grow G G') (h : SlU e G v x) : SlU e G' v x := by
  obtain ⟨a, n, c, rfl, h, hn⟩ := h
  exact ⟨a, n, c, rfl, SlR.grow (G := G) (G' := G') (fun _ _ h => h) h hg, hn⟩
theorem SlU.v {α : Type} {e : El α} {G : Hp} {v : Value} {x : List α} (h : SlU e G v x) (hb : x.length ≤ 140737488355328) : SlV e G v x := by
  obtain ⟨a, n, c, rfl, h, _⟩ := h
  exact ⟨a, n, c, rfl, h, by rw [← h.len]; exact hb⟩
def WuR (G : Hp) (cs : List Value) (w : Wd) : Prop := ∃ h, cs = [.string w.text, h] ∧ SlU intE G h w.heads
theorem WuR.uniq {G : Hp} {cs : List Value} {x y : Wd} (h : WuR G cs x) (h' : WuR G cs y) : x = y := by
  obtain ⟨a, e, h1⟩ := h
  obtain ⟨b, e', h2⟩ := h'
  rw [e] at e'
  simp only [List.cons.injEq, Value.string.injEq, and_true] at e'
  obtain ⟨e1, e2⟩ := e'
  subst e2
  have := h1.uniq h2
  cases x; cases y; simp_all
theorem WuR.grow {G G' : Hp} (hg : Grow G G') {cs : List Value} {x : Wd} (h : WuR G cs x) : WuR G' cs x := by
  obtain ⟨a, e, h1⟩ := h
  exact ⟨a, e, h1.grow hg⟩
structure RuC (G : Hp) (w o : Value) (r : Rp) : Prop where
  w : ∃ a n c, w = .slice a n c ∧ SlR 2 WuR G a n c r.words ∧ n ≤ maxLen
  o : SlU odE G o r.orders
theorem RuC.grow {G G' : Hp} (hg : Grow G G') {w o : Value} {r : Rp} (h : RuC G w o r) : RuC G' w o r := by
  obtain ⟨⟨a, n, c, e, h1, h2⟩, h3⟩ := h
  exact ⟨⟨a, n, c, e, SlR.grow (fun _ _ h => h.grow hg) h1 hg, h2⟩, h3.grow hg⟩
def RuV (G : Hp) (v : Value) (r : Rp) : Prop := ∃ w o, v = .agg #[w, o, I r.cols] ∧ RuC G w o r
def ruRd : Rd Rp := ⟨RuV, fun {_ _ x y} ⟨w, o, h, h1⟩ ⟨w', o', h', h1'⟩ => by
    subst h
    simp only [Value.agg.injEq, Array.mk.injEq, List.cons.injEq, Value.int.injEq, true_and, and_true] at h'
    obtain ⟨e1, e2, e3⟩ := h'
    subst e1; subst e2
    obtain ⟨a, n, c, rfl, k1, _⟩ := h1.w
    obtain ⟨a', n', c', e, k2, _⟩ := h1'.w
    cases e
    have m1 := SlR.uniq (fun cs x y h h' => WuR.uniq h h') k1 k2
    have m2 := h1.o.uniq h1'.o
    cases x; cases y; simp_all, fun hg ⟨w, o, h, h1⟩ => ⟨w, o, h, h1.grow hg⟩⟩
def XuV (G : Hp) (v : Value) (x : Rx) : Prop := ∃ m, v = .agg #[I x.year, m] ∧ SlU intE G m x.may
def xuRd : Rd Rx := ⟨XuV, fun {_ _ x y} ⟨m, h, h1⟩ ⟨m', h', h1'⟩ => by
    subst h
    simp only [Value.agg.injEq, Array.mk.injEq, List.cons.injEq, Value.int.injEq, true_and, and_true] at h'
    obtain ⟨e1, e2⟩ := h'
    subst e2
    have := h1.uniq h1'
    cases x; cases y; simp_all, fun hg ⟨m, h, h1⟩ => ⟨m, h, h1.grow hg⟩⟩
def fewW (w : Wd) : Bool := decide (w.text.size ≤ 25) && decide (w.heads.length ≤ 8)
def fewF (r : Rp) (x : Rx) : Bool := r.words.all fewW && (decide (r.words.length ≤ 65) && (decide (r.orders.length ≤ 15) && decide (x.may.length ≤ 12)))
structure Few (r : Rp) (x : Rx) : Prop where
  w : ∀ w ∈ r.words, w.text.size ≤ 25 ∧ w.heads.length ≤ 8
  wl : r.words.length ≤ 65
  ol : r.orders.length ≤ 15
  ml : x.may.length ≤ 12
theorem few_of {r : Rp} {x : Rx} (h : fewF r x = true) : Few r x := by
  simp only [fewF, fewW, Bool.and_eq_true, List.all_eq_true, decide_eq_true_eq] at h
  exact ⟨h.1, h.2.1, h.2.2.1, h.2.2.2⟩
theorem RuV.v {G : Hp} {v : Value} {r : Rp} {x : Rx} (h : RuV G v r) (hf : Few r x) : RpV G v r := by
  obtain ⟨w, o, e, ⟨a, n, c, e1, h1, _⟩, h2⟩ := h
  refine ⟨w, o, e, ⟨a, n, c, e1, SlR.conv h1 rfl fun i j1 j2 cs hcs => ?_, ?_⟩, h2.v (by have := hf.ol; omega)⟩
  · obtain ⟨hd, k1, k2⟩ := hcs
    exact ⟨hd, k1, k2.v (by have := (hf.w _ (List.getElem_mem j1)).2; omega)⟩
  · have := hf.wl; have := h1.len; omega
theorem XuV.v {G : Hp} {v : Value} {r : Rp} {x : Rx} (h : XuV G v x) (hf : Few r x) : RxV G v x := by
  obtain ⟨m, e, h1⟩ := h
  exact ⟨m, e, h1.v (by have := hf.ml; omega)⟩
theorem few13 : Sound Try.prog 13 id (gsca (args2 ruRd xuRd fun _ _ => True) fun p v => v = .bool (fewF p.1 p.2)) := by
  refine comp13.gsca (Tab.nil _) (fun args G s h => ?_) (fun args G p h => ?_)
  · obtain ⟨v, w, rfl, _⟩ := h; simp
  · obtain ⟨r, x⟩ := p
    obtain ⟨u, v, rfl, ⟨rw_, ro, rfl, ⟨wa, wn, wc, rfl, hw1, hw2⟩, ⟨oa, on, oc, rfl, ho1, ho2⟩⟩, ⟨m, rfl, ⟨ma, mn, mc, rfl, hm1, hm2⟩⟩, _⟩ := h
    dsimp only at hw1 ho1 hm1
    have hwn := hw1.len
    have hon := ho1.len
    have hmn := hm1.len
    have hml : maxLen ≤ 9223372036854775807 := by unfold maxLen; omega
    have hfw : fewF r x = (r.words.all fewW && (decide (r.words.length ≤ 65) && (decide (r.orders.length ≤ 15) && decide (x.may.length ≤ 12)))) := rfl
    dsimp only
    (conv => whnf)
    refine LoopP.of { α := Nat, fr := fun i => [(2, .c (.ptr 0 0)), (3, .c (.ptr 1 0)), (5, .v (I i))], H := fun _ => [(0, .cells .anon [.val (.slice wa wn wc), .val (.slice oa on oc), .val (I r.cols)] 25), (1, .cells .anon [.val (I x.year), .val (.slice ma mn mc)] 28)], ok := fun i _ => i ≤ wn ∧ (r.words.drop i).all fewW = r.words.all fewW, m := fun i => wn - i }
      0 (HeadP.of [] ⟨rfl, rfl, rfl, trivial⟩ ⟨rfl, rfl, trivial⟩) ⟨Nat.zero_le _, rfl⟩ (fun _ => ⟨rfl, rfl⟩) (fun (i : Nat) G1 hg1 hx => W.mk ?_)
    obtain ⟨hi, hx⟩ := hx
    have hw3 : SlR 2 WuR G1 wa wn wc r.words := SlR.grow (fun _ _ h => h.grow hg1) hw1 hg1
    dsimp only
    (conv => whnf)
    refine IteP.mk (fun hlt => W.mk ?_) (fun hge => W.mk ?_) <;> (conv => whnf)
    · have hlt : i < r.words.length := by omega
      rw [List.drop_eq_getElem_cons hlt, List.all_cons] at hx
      obtain ⟨cs, _, hc, hv, rfl, ha, hn, hcc, rfl, hh1, hh2⟩ := SlR.cells hw3 hlt
      have hhl := hh1.len
      have hlw : fewW r.words[i] = (decide (r.words[i].text.size ≤ 25) && decide (r.words[i].heads.length ≤ 8)) := rfl
      generalize r.words[i] = w at hx hc hh1 hhl hlw
      repeat' (first | (refine OblP.mk ?_ (W.mk ?_); (first | trivial | omega | (simp only [inR]; omega) | exact Nat.le_of_ble_eq_true (by rfl) | exact SlR.some (by assumption) (by omega)); (conv => whnf)) | (first | (refine RdP.at (by assumption) (by rfl) (W.mk ?_); (conv => whnf)) | (refine RdP.sub (by assumption) (by rfl) (W.mk ?_); (conv => whnf)) | (refine RdP.sub2 (by assumption) (by rfl) (W.mk ?_); (conv => whnf)) | (refine RdP.sub3 (by assumption) (by rfl) (W.mk ?_); (conv => whnf))))
      refine IteP.mk (fun h5 => W.mk ?_) (fun h5 => W.mk ?_) <;> (conv => whnf)
      · have h5 : ¬ w.text.size ≤ 25 := by omega
        refine FinP.mk ?_
        rw [hfw, ← hx, hlw, decide_eq_false h5]; rfl
      · have h5 : w.text.size ≤ 25 := by omega
        repeat' (first | (refine OblP.mk ?_ (W.mk ?_); (first | trivial | omega | (simp only [inR]; omega) | exact Nat.le_of_ble_eq_true (by rfl) | exact SlR.some (by assumption) (by omega)); (conv => whnf)) | (first | (refine RdP.at (by assumption) (by rfl) (W.mk ?_); (conv => whnf)) | (refine RdP.sub (by assumption) (by rfl) (W.mk ?_); (conv => whnf)) | (refine RdP.sub2 (by assumption) (by rfl) (W.mk ?_); (conv => whnf)) | (refine RdP.sub3 (by assumption) (by rfl) (W.mk ?_); (conv => whnf))))
        refine IteP.mk (fun h6 => W.mk ?_) (fun h6 => W.mk ?_) <;> (conv => whnf)
        · have h6 : ¬ w.heads.length ≤ 8 := by omega
          refine FinP.mk ?_
          rw [hfw, ← hx, hlw, decide_eq_false h6, Bool.and_false]; rfl
        · have h6 : w.heads.length ≤ 8 := by omega
          rw [hlw, decide_eq_true h5, decide_eq_true h6, Bool.true_and, Bool.true_and] at hx
          repeat' (first | (refine OblP.mk ?_ (W.mk ?_); (first | trivial | omega | (simp only [inR]; omega) | exact Nat.le_of_ble_eq_true (by rfl) | exact SlR.some (by assumption) (by omega)); (conv => whnf)) | (first | (refine RdP.at (by assumption) (by rfl) (W.mk ?_); (conv => whnf)) | (refine RdP.sub (by assumption) (by rfl) (W.mk ?_); (conv => whnf)) | (refine RdP.sub2 (by assumption) (by rfl) (W.mk ?_); (conv => whnf)) | (refine RdP.sub3 (by assumption) (by rfl) (W.mk ?_); (conv => whnf))))
          exact RoundP.of (i + 1) (HeadP.of [] ⟨rfl, rfl, rfl, trivial⟩ ⟨rfl, rfl, trivial⟩) ⟨by omega, hx⟩ (by simp only; omega)
    · rw [List.drop_of_length_le (by omega)] at hx
      have hx : true = r.words.all fewW := hx
      rw [← hx, Bool.true_and] at hfw
      refine IteP.mk (fun h5 => W.mk ?_) (fun h5 => W.mk ?_) <;> (conv => whnf)
      rotate_left
      · refine FinP.mk ?_
        rw [hfw, decide_eq_false (by omega)]; rfl
      refine IteP.mk (fun h6 => W.mk ?_) (fun h6 => W.mk ?_) <;> (conv => whnf)
      rotate_left
      · refine FinP.mk ?_
        rw [hfw, decide_eq_false (by omega : ¬ r.orders.length ≤ 15), Bool.false_and, Bool.and_false]; rfl
      refine IteP.mk (fun h7 => W.mk ?_) (fun h7 => W.mk ?_) <;> (conv => whnf)
      · refine FinP.mk ?_
        rw [hfw, decide_eq_true (by omega : r.words.length ≤ 65), decide_eq_true (by omega : r.orders.length ≤ 15), decide_eq_true (by omega : x.may.length ≤ 12)]; rfl
      · refine FinP.mk ?_
        rw [hfw, decide_eq_false (by omega : ¬ x.may.length ≤ 12), Bool.and_false, Bool.and_false]; rfl
theorem faultL18 : Sound Try.prog 18 id (gsca (args2 rpRd rxRd fun r _ => ∀ w ∈ r.words, w.text.size ≤ 1000) fun p v => v = I (faultX p.1 p.2)) := by
  refine comp18.gsca (Tab.cons 32 _ fault32 body32 (Tab.cons 49 _ reader49 body49 (Tab.nil _))) (fun args G s h => ?_) (fun args G p h => ?_)
  · obtain ⟨v, w, rfl, _⟩ := h; simp
  · obtain ⟨r, x⟩ := p
    obtain ⟨u, v, rfl, hr, hx, hb⟩ := h
    dsimp only at hr hx hb
    obtain ⟨rw_, ro, rfl, hrc⟩ := id hr
    obtain ⟨m, rfl, hm⟩ := id hx
    obtain ⟨oa, on, oc, rfl, ho1, ho2⟩ := id hrc.o
    obtain ⟨wa, wn, wc, rfl, hw1, hw2⟩ := id hrc.w
    obtain ⟨ma, mn, mc, rfl, hm1, hm2⟩ := id hm
    dsimp only
    (conv => whnf)
    refine ScaP.g (ok1 rpRd _) (x := r) ⟨_, rfl, hr, hb⟩ (fun v hv => W.mk ?_)
    subst hv
    (conv => whnf)
    refine IteP.mk (fun h1 => W.mk ?_) (fun h1 => W.mk ?_) <;> (conv => whnf)
    rotate_left
    · refine FinP.mk ?_
      rw [faultX, if_neg h1]; rfl
    have h1 : faultR r = 0 := h1
    refine ScaP.g (ok1 rxRd fun _ => True) (x := x) ⟨_, rfl, hx, trivial⟩ (fun v hv => W.mk ?_)
    subst hv
    (conv => whnf)
    refine ForkP.mk (fun h2 => W.mk ?_) (fun h2 => W.mk ?_) <;> (conv => whnf)
    · refine FinP.mk ?_
      rw [faultX, if_pos h1, if_pos h2]; rfl
    · refine FinP.mk ?_
      rw [faultX, if_pos h1, if_neg (by rw [h2]; simp)]; rfl
theorem ready23 : Sound Try.prog 23 id (gsca (args2 ruRd xuRd fun _ _ => True) fun p v => v = .bool (fewF p.1 p.2 && decide (faultX p.1 p.2 = 0))) := by
  refine comp23.gsca (Tab.cons 13 _ few13 body13 (Tab.cons 18 _ faultL18 body18 (Tab.nil _))) (fun args G s h => ?_) (fun args G p h => ?_)
  · obtain ⟨v, w, rfl, _⟩ := h; simp
  · obtain ⟨r, x⟩ := p
    obtain ⟨u, v, rfl, hr, hx, _⟩ := h
    dsimp only at hr hx
    obtain ⟨rw_, ro, rfl, ⟨wa, wn, wc, rfl, hw1, hw2⟩, ⟨oa, on, oc, rfl, ho1, ho2⟩⟩ := id hr
    obtain ⟨m, rfl, ⟨ma, mn, mc, rfl, hm1, hm2⟩⟩ := id hx
    dsimp only
    (conv => whnf)
    refine ScaP.g (ok2 ruRd xuRd fun _ _ => True) (x := (r, x)) ⟨_, _, rfl, hr, hx, trivial⟩ (fun v hv => W.mk ?_)
    subst hv
    dsimp only
    (conv => whnf)
    refine ForkP.mk (fun h1 => W.mk ?_) (fun h1 => W.mk ?_) <;> (conv => whnf)
    rotate_left
    · refine FinP.mk ?_
      rw [h1]; rfl
    have hf := few_of h1
    refine ScaP.g (ok2 rpRd rxRd _) (x := (r, x)) ⟨_, _, rfl, hr.v hf, hx.v hf, fun w hw => by have := (hf.w w hw).1; omega⟩ (fun v hv => W.mk ?_)
    subst hv
    dsimp only
    (conv => whnf)
    refine IteP.mk (fun h2 => W.mk ?_) (fun h2 => W.mk ?_) <;> (conv => whnf)
    · refine FinP.mk ?_
      rw [h1, decide_eq_true h2]; rfl
    · refine FinP.mk ?_
      rw [h1, decide_eq_false h2]; rfl
end Go.Proofs.Ytpcpjmplgladmaa

namespace Go.Proofs.Ytpcpjmplgladmaa
open Go.Pal Go.RowKit
set_option maxRecDepth 100000
theorem reader17 : Sound Try.prog 17 id (grel (args1 rxRd fun x => x.may.length ≤ 1000) fun x v G => RxV G v x) := by
  refine comp17.grel (Tab.cons 27 _ list27 body27 (Tab.nil _)) (ok1 _ _) (fun args G s h => ?_) (fun x v G G' hg h => rxRd.grow hg h) (fun args G x h => ?_)
  · obtain ⟨v, rfl, _⟩ := h; simp
  · obtain ⟨v, rfl, ⟨m, rfl, hm⟩, hb⟩ := h
    obtain ⟨ma, mn, mc, rfl, hm1, hm2⟩ := id hm
    (conv => whnf)
    refine RelP.g (ok1 (slRd intE) fun l => l.length ≤ 1000) (x := x.may) ⟨_, rfl, hm, hb⟩ (Grow.refl _) (fun v G1 hg1 hq => W.mk ?_)
    obtain ⟨a, n, c, rfl, h1, h2⟩ := id hq
    (conv => whnf)
    exact FinP.mk ⟨_, rfl, hq⟩
structure Repo (r : Rp) : Prop where
  wl : r.words.length ≤ 1000
  ol : r.orders.length ≤ 1000
  w : ∀ w ∈ r.words, w.heads.length ≤ 1000
theorem Few.repo {r : Rp} {x : Rx} (h : Few r x) : Repo r := ⟨by have := h.wl; omega, by have := h.ol; omega, fun w hw => by have := (h.w w hw).2; omega⟩
theorem report16 : Sound Try.prog 16 id (grel (args1 rpRd Repo) fun r v G => RpV G v r) := by
  refine comp16.grel (Tab.cons 27 _ list27 body27 (Tab.nil _)) (ok1 _ _) (fun args G s h => ?_) (fun x v G G' hg h => rpRd.grow hg h) (fun args G r h => ?_)
  · obtain ⟨v, rfl, _⟩ := h; simp
  · obtain ⟨v, rfl, ⟨rw_, ro, rfl, hrc⟩, hb⟩ := h
    obtain ⟨oa, on, oc, rfl, ho1, ho2⟩ := id hrc.o
    obtain ⟨wa, wn, wc, rfl, hw1, hw2⟩ := id hrc.w
    have hwn := hw1.len
    have hon := ho1.len
    have hwl := hb.wl
    have hol := hb.ol
    (conv => whnf)
    refine LoopP.of { α := Nat × List Raw × List Value, fr := fun y => [(1, .c (.ptr 0 0)), (2, .c (.ptr 1 0)), (3, .c (.ptr 5 0)), (4, .v (I y.1))], H := fun y => [(0, .cells .anon [.val (.slice wa wn wc), .val (.slice oa on oc), .val (I r.cols)] 25), (1, .cells .anon [.val (.slice none 0 0), .val (.slice none 0 0), .val (I 0)] 38), (5, .cells .anon [.row 3 y.1, .val (.slice none 0 0), .val (I r.cols)] 38), (3, .row none y.1 y.2.2 104 2)], ok := fun y G => y.1 ≤ wn ∧ Row wdhE y.2.1 y.1 y.2.2 ∧ ∀ i (h : i < y.2.1.length) (h2 : i < r.words.length), WdR G (wdhE.f y.2.1[i]) r.words[i], m := fun y => wn - y.1 }
      (0, [], []) (HeadP.of [(3, none)] ⟨rfl, rfl, rfl, rfl, trivial⟩ ⟨rfl, rfl, rfl, rfl, trivial⟩) ⟨Nat.zero_le _, Row.nil, fun i h => by simp at h⟩ (fun _ => ⟨rfl, rfl⟩) (fun y G1 hg1 hx => W.mk ?_)
    obtain ⟨i, L, vs⟩ := y
    obtain ⟨hi, hrow, hrd⟩ := hx
    dsimp only at hi hrow hrd
    have hLn := hrow.n
    have hw3 : SlR 2 WdR G1 wa wn wc r.words := SlR.grow (fun _ _ h => h.grow hg1) hw1 hg1
    dsimp only
    (conv => whnf)
    refine IteP.mk (fun hlt => W.mk ?_) (fun hge => W.mk ?_) <;> (conv => whnf)
    · have hlt : i < r.words.length := by omega
      obtain ⟨cs, _, hc, hv, rfl, ha, hn, hcc, rfl, hh1, hh2⟩ := SlR.cells hw3 hlt
      have hhb := hb.w _ (List.getElem_mem hlt)
      generalize hwd : r.words[i] = w at hc hh1 hhb
      repeat' (first | (refine OblP.mk ?_ (W.mk ?_); (first | trivial | omega | (simp only [inR]; omega) | exact Nat.le_of_ble_eq_true (by rfl) | exact SlR.some (by assumption) (by omega)); (conv => whnf)) | (first | (refine RdP.at (by assumption) (by rfl) (W.mk ?_); (conv => whnf)) | (refine RdP.sub (by assumption) (by rfl) (W.mk ?_); (conv => whnf)) | (refine RdP.sub2 (by assumption) (by rfl) (W.mk ?_); (conv => whnf)) | (refine RdP.sub3 (by assumption) (by rfl) (W.mk ?_); (conv => whnf))))
      refine RelP.g (ok1 (slRd intE) fun l => l.length ≤ 1000) (x := w.heads) ⟨_, rfl, ⟨_, _, _, rfl, hh1, hh2⟩, hhb⟩ (Grow.refl _) (fun v G2 hg2 hq => W.mk ?_)
      obtain ⟨a1, n1, c1, rfl, _, _⟩ := id hq
      (conv => whnf)
      repeat' (first | (refine OblP.mk rfl (W.mk ?_); (conv => whnf)) | (refine OblP.mk ?_ (W.mk ?_); (first | trivial | omega | (simp only [inR]; omega) | exact Nat.le_of_ble_eq_true (by rfl) | exact SlR.some (by assumption) (by omega)); (conv => whnf)) | (first | (refine RdP.at (by assumption) (by rfl) (W.mk ?_); (conv => whnf)) | (refine RdP.sub (by assumption) (by rfl) (W.mk ?_); (conv => whnf)) | (refine RdP.sub2 (by assumption) (by rfl) (W.mk ?_); (conv => whnf)) | (refine RdP.sub3 (by assumption) (by rfl) (W.mk ?_); (conv => whnf))))
      refine RoundP.of (i + 1, L ++ [(w.text, a1, n1, c1)], vs ++ [Value.string w.text, Value.slice a1 n1 c1]) (HeadP.of [(3, some 30)] ⟨rfl, rfl, rfl, rfl, trivial⟩ ⟨rfl, rfl, rfl, rfl, trivial⟩) ⟨by show i + 1 ≤ wn; omega, hrow.snoc (w.text, a1, n1, c1), fun k k1 k2 => ?_⟩ (by simp only; omega)
      dsimp only at k1 ⊢
      rw [List.getElem_append]
      split
      · rename_i k3
        exact (hrd k k3 k2).grow hg2
      · have hk : k = i := by simp at k1; omega
        subst hk
        rw [hwd]
        simp only [List.getElem_singleton]
        exact ⟨_, rfl, hq⟩
    have hie : i = r.words.length := by omega
    subst hie
    refine LoopP.of { α := Nat × List Value, fr := fun y => [(1, .c (.ptr 0 0)), (2, .c (.ptr 1 0)), (3, .c (.ptr 5 0)), (5, .v (I y.1))], H := fun y => [(0, .cells .anon [.val (.slice wa wn wc), .val (.slice oa on oc), .val (I r.cols)] 25), (1, .cells .anon [.val (.slice none 0 0), .val (.slice none 0 0), .val (I 0)] 38), (5, .cells .anon [.row 3 r.words.length, .row 4 y.1, .val (I r.cols)] 38), (3, .row none r.words.length vs 104 2), (4, .row none y.1 y.2 65 4)], ok := fun y G => y.1 ≤ on ∧ Row odE (r.orders.take y.1) y.1 y.2, m := fun y => on - y.1 }
      (0, []) (HeadP.of [(4, none)] ⟨rfl, rfl, rfl, rfl, trivial⟩ ⟨rfl, rfl, rfl, rfl, rfl, trivial⟩) ⟨Nat.zero_le _, Row.nil⟩ (fun _ => ⟨rfl, rfl⟩) (fun y G3 hg3 hx => W.mk ?_)
    obtain ⟨k, us⟩ := y
    obtain ⟨hk, hrow2⟩ := hx
    dsimp only at hk hrow2
    dsimp only
    (conv => whnf)
    refine IteP.mk (fun hlt => W.mk ?_) (fun hge2 => W.mk ?_) <;> (conv => whnf)
    · have hlt : k < r.orders.length := by omega
      have hc := (SlR.grow (G := G) (G' := G3) (fun _ _ h => h) ho1 (hg1.trans hg3)).el hlt
      have htk := take_snoc (List.getElem?_eq_getElem hlt)
      generalize r.orders[k] = o at hc htk
      have hc : CellsAt G3 (ab oa) (ao oa + k * 4) [I o.f, I o.t, I o.k, I o.u] := hc
      repeat' (first | (refine OblP.mk rfl (W.mk ?_); (conv => whnf)) | (refine OblP.mk ?_ (W.mk ?_); (first | trivial | omega | (simp only [inR]; omega) | exact Nat.le_of_ble_eq_true (by rfl) | exact SlR.some (by assumption) (by omega)); (conv => whnf)) | (first | (refine RdP.at (by assumption) (by rfl) (W.mk ?_); (conv => whnf)) | (refine RdP.sub (by assumption) (by rfl) (W.mk ?_); (conv => whnf)) | (refine RdP.sub2 (by assumption) (by rfl) (W.mk ?_); (conv => whnf)) | (refine RdP.sub3 (by assumption) (by rfl) (W.mk ?_); (conv => whnf))))
      refine RoundP.of (k + 1, us ++ [I o.f, I o.t, I o.k, I o.u]) (HeadP.of [(4, some 61)] ⟨rfl, rfl, rfl, rfl, trivial⟩ ⟨rfl, rfl, rfl, rfl, rfl, trivial⟩) ⟨by show k + 1 ≤ on; omega, ?_⟩ (by simp only; omega)
      dsimp only
      rw [htk]
      exact hrow2.snoc o
    have hke : k = r.orders.length := by omega
    subst hke
    rw [List.take_length] at hrow2
    refine PubP.mk (fun a1 c1 G4 hg4 h4 => W.mk ?_)
    (conv => whnf)
    refine PubP.mk (fun a2 c2 G5 hg5 h5 => W.mk ?_)
    (conv => whnf)
    refine FinP.mk ⟨_, _, rfl, ?_, hrow2.pub h5 (by omega)⟩
    obtain ⟨_, _, _, q1, q2, q3⟩ := (hrow.pub h4 (by omega)).grow hg5
    cases q1
    refine ⟨_, _, _, rfl, SlR.conv q2 (by rw [hLn]) fun i j1 j2 cs hcs => ?_, q3⟩
    have hcs : cs = wdhE.f _ := hcs
    subst hcs
    exact (hrd i j1 j2).grow ((hg3.trans hg4).trans hg5)
end Go.Proofs.Ytpcpjmplgladmaa

namespace Go.Proofs.Ytpcpjmplgladmaa
open Go.Pal Go.RowKit
set_option maxRecDepth 100000
theorem sh_last (r : Rp) (x : Rx) : ∀ i : Nat, 1 ≤ i → shK r x i ≠ [] ∧ ((shK r x i).getD ((shK r x i).length - 1) 0 = -1 ↔ hidF r x ((i - 1 : Nat) : Int) = true)
  | i + 1, _ => by
    have snoc : ∀ (l : List Int) (a : Int), (l ++ [a]).getD ((l ++ [a]).length - 1) 0 = a := fun l a => by simp
    simp only [shK, Nat.add_sub_cancel]
    by_cases h : hidF r x i = true
    · rw [if_pos h]
      split
      · rw [snoc]; simp [h]
      · rename_i h1
        simp only [not_or, Decidable.not_not] at h1
        exact ⟨fun e => h1.1 (by rw [e]; rfl), fun _ => h, fun _ => h1.2⟩
    · rw [if_neg h, snoc]
      refine ⟨by simp, ?_⟩
      simp only [h]
      constructor
      · intro e; omega
      · intro e; cases e
theorem pc_sh (r : Rp) (x : Rx) : ∀ i : Nat, (pcK (rgOf r x) i).map (·.1) = shK r x i
  | 0 => rfl
  | i + 1 => by
    have ih := pc_sh r x i
    have hlast := sh_last r x i
    simp only [pcK, shK]
    show List.map _ (if hidF r x i = true then (if 0 < i ∧ hidF r x ((i - 1 : Nat) : Int) = true then _ else _) else _) = _
    by_cases h : hidF r x i = true
    · rw [if_pos h, if_pos h]
      by_cases h0 : 0 < i
      · obtain ⟨k1, k2⟩ := hlast h0
        have hl : (shK r x i).length ≠ 0 := fun e => k1 (List.eq_nil_of_length_eq_zero e)
        by_cases hp : hidF r x ((i - 1 : Nat) : Int) = true
        · rw [if_pos ⟨h0, hp⟩, if_neg (fun e => e.elim hl (fun e => e (k2.2 hp))), ih]
        · rw [if_neg (fun e => hp e.2), if_pos (.inr fun e => hp (k2.1 e)), List.map_append, ih]; rfl
      · have : i = 0 := by omega
        subst this
        rfl
    · rw [if_neg h, if_neg h, List.map_append, ih]; rfl
theorem pcF_sh (r : Rp) (x : Rx) : (pcF (rgOf r x)).map (·.1) = shF r x := pc_sh r x _
theorem pcK_at (g : Rg) : ∀ (i k : Nat) (e : Int × Pc), (pcK g i)[k]? = some e → e.2.col = (k : Int) / g.r.cols + 1 ∧ e.2.text = if e.1 = -1 then noText else (g.r.words.getD e.1.toNat ⟨noText, []⟩).text
  | 0, k, e, h => by simp [pcK] at h
  | i + 1, k, e, h => by
    have ih := pcK_at g i k e
    have app : ∀ e' : Int × Pc, (e'.2.col = ((pcK g i).length : Int) / g.r.cols + 1 ∧ e'.2.text = if e'.1 = -1 then noText else (g.r.words.getD e'.1.toNat ⟨noText, []⟩).text) → (pcK g i ++ [e'])[k]? = some e → e.2.col = (k : Int) / g.r.cols + 1 ∧ e.2.text = if e.1 = -1 then noText else (g.r.words.getD e.1.toNat ⟨noText, []⟩).text := fun e' he hk => by
      by_cases h1 : k < (pcK g i).length
      · rw [List.getElem?_append_left h1] at hk; exact ih hk
      · have h2 := (List.getElem?_eq_some_iff.1 hk).1
        have h2 : k = (pcK g i).length := by simp at h2; omega
        subst h2
        simp at hk
        subst hk
        exact he
    simp only [pcK] at h
    by_cases hp : g.p i = true
    · rw [if_pos hp] at h
      by_cases h2 : 0 < i ∧ g.p (i - 1) = true
      · rw [if_pos h2] at h; exact ih h
      · rw [if_neg h2] at h
        exact app (-1, ⟨noText, (pcK g i).length / g.r.cols + 1⟩) ⟨rfl, by simp⟩ h
    · rw [if_neg hp] at h
      exact app ((i : Int), ⟨(g.r.words.getD i ⟨noText, []⟩).text, (pcK g i).length / g.r.cols + 1⟩) ⟨rfl, by rw [if_neg (by show ¬ (i : Int) = -1; omega)]; rfl⟩ h
theorem fine_ok {r : Rp} (h : Fine r) : RpOk r := ⟨fun o ho => by have := h.o o ho; have := h.wl; omega, by have := h.wl; omega⟩
def tabRf : Tab Try.prog := Tab.cons 33 _ shown33 body33 tabC
theorem look34 : Sound Try.prog 34 id (grel (args2 rpRd rxRd fun r _ => Fine r) fun p v G => SlV pcE G v (lookF p.1 p.2)) := by
  refine comp34.grel tabRf (ok2 _ _ _) (fun args G s h => ?_) (fun x v G G' hg h => h.grow hg) (fun args G p h => ?_)
  · obtain ⟨v, w, rfl, _⟩ := h; simp
  · obtain ⟨r, x⟩ := p
    obtain ⟨u, v, rfl, hr, hx, hf⟩ := h
    dsimp only at hr hx hf
    obtain ⟨rw_, ro, rfl, hrc⟩ := id hr
    obtain ⟨m, rfl, hm⟩ := id hx
    obtain ⟨oa, on, oc, rfl, ho1, ho2⟩ := id hrc.o
    obtain ⟨wa, wn, wc, rfl, hw1, hw2⟩ := id hrc.w
    obtain ⟨ma, mn, mc, rfl, hm1, hm2⟩ := id hm
    have hwn := hw1.len
    have hcl := hf.c
    have hwl := hf.wl
    have hplen := pcF_len (rgOf r x)
    have hplen : (pcF (rgOf r x)).length ≤ r.words.length := hplen
    dsimp only
    (conv => whnf)
    refine RelP.g (ok2 rpRd rxRd fun r _ => RpOk r) (x := (r, x)) ⟨_, _, rfl, hr, hx, fine_ok hf⟩ (Grow.refl _) (fun v G1 hg1 hq => W.mk ?_)
    dsimp only at hq
    rw [← pcF_sh] at hq
    obtain ⟨sa, sn, sc, rfl, hs1, hs2⟩ := hq
    have hsn := hs1.len
    rw [List.length_map] at hsn
    (conv => whnf)
    refine LoopP.of { α := Nat × List Value, fr := fun y => [(2, .c (.ptr 0 0)), (5, .c (.row 3 y.1)), (6, .v (.slice sa sn sc)), (7, .v (I y.1))], H := fun y => [(0, .cells .anon [.val (.slice wa wn wc), .val (.slice oa on oc), .val (I r.cols)] 25), (3, .row none y.1 y.2 78 2)], ok := fun y G => y.1 ≤ sn ∧ Row pcE ((lookF r x).take y.1) y.1 y.2, m := fun y => sn - y.1 }
      (0, []) (HeadP.of [(3, none)] ⟨rfl, rfl, rfl, rfl, trivial⟩ ⟨rfl, rfl, trivial⟩) ⟨Nat.zero_le _, Row.nil⟩ (fun _ => ⟨rfl, rfl⟩) (fun y G2 hg2 hx2 => W.mk ?_)
    obtain ⟨i, vs⟩ := y
    obtain ⟨hi, hrow⟩ := hx2
    dsimp only at hi hrow
    dsimp only
    (conv => whnf)
    refine IteP.mk (fun hlt => W.mk ?_) (fun hge => W.mk ?_) <;> (conv => whnf)
    · have hlt : i < (pcF (rgOf r x)).length := by omega
      have hcol : inR .i64 ((i : Int) / r.cols) ∧ inR .i64 ((i : Int) / r.cols + 1) := by
        have h1 := Int.ediv_nonneg (show (0 : Int) ≤ i by omega) (show 0 ≤ r.cols by omega)
        have h2 : (i : Int) / r.cols ≤ i := Int.ediv_le_self _ (by omega)
        simp only [inR]; omega
      have hc := (SlR.grow (G := G1) (G' := G2) (fun _ _ h => h) hs1 hg2).el (i := i) (by simpa using hlt)
      rw [List.getElem_map] at hc
      obtain ⟨k1, k2⟩ := pcK_at (rgOf r x) _ i _ (List.getElem?_eq_getElem hlt)
      have htk : (lookF r x).take (i + 1) = (lookF r x).take i ++ [(pcF (rgOf r x))[i].2] := by
        rw [lookF]; exact take_snoc (by simp [hlt])
      have hmem := pcK_mem (rgOf r x) _ _ (List.getElem_mem hlt)
      have k1 : (pcF (rgOf r x))[i].2.col = (i : Int) / r.cols + 1 := k1
      have k2 : (pcF (rgOf r x))[i].2.text = if (pcF (rgOf r x))[i].1 = -1 then noText else (r.words.getD (pcF (rgOf r x))[i].1.toNat ⟨noText, []⟩).text := k2
      have hmem : (pcF (rgOf r x))[i].1 = -1 ∨ ∃ j : Nat, j < r.words.length ∧ (pcF (rgOf r x))[i].1 = j := hmem
      generalize (pcF (rgOf r x))[i] = e at hc k1 k2 htk hmem
      obtain ⟨sh, tx, cl⟩ := e
      dsimp only at hc k1 k2 hmem
      subst k1
      repeat' (first | (refine OblP.mk ?_ (W.mk ?_); (first | trivial | omega | (simp only [inR]; omega) | exact Nat.le_of_ble_eq_true (by rfl) | exact SlR.some (by assumption) (by omega)); (conv => whnf)) | (first | (refine RdP.at (by assumption) (by rfl) (W.mk ?_); (conv => whnf)) | (refine RdP.sub (by assumption) (by rfl) (W.mk ?_); (conv => whnf)) | (refine RdP.sub2 (by assumption) (by rfl) (W.mk ?_); (conv => whnf)) | (refine RdP.sub3 (by assumption) (by rfl) (W.mk ?_); (conv => whnf))) | (refine OblP.mk ⟨by omega, by omega, by simp only [inR]; omega⟩ (W.mk ?_); (conv => whnf)) | (refine OblP.mk hcol.2 (W.mk ?_); (conv => whnf)))
      rcases hmem with rfl | ⟨j, hj, rfl⟩
      · rw [if_pos rfl] at k2
        subst k2
        refine IteP.mk (fun h5 => by exfalso; omega) (fun _ => W.mk ?_)
        (conv => whnf)
        repeat' (first | (refine OblP.mk rfl (W.mk ?_); (conv => whnf)) | (refine OblP.mk ?_ (W.mk ?_); (first | trivial | omega | (simp only [inR]; omega) | exact Nat.le_of_ble_eq_true (by rfl) | exact SlR.some (by assumption) (by omega)); (conv => whnf)) | (first | (refine RdP.at (by assumption) (by rfl) (W.mk ?_); (conv => whnf)) | (refine RdP.sub (by assumption) (by rfl) (W.mk ?_); (conv => whnf)) | (refine RdP.sub2 (by assumption) (by rfl) (W.mk ?_); (conv => whnf)) | (refine RdP.sub3 (by assumption) (by rfl) (W.mk ?_); (conv => whnf))))
        refine RoundP.of (i + 1, vs ++ [Value.string noText, I ((i : Int) / r.cols + 1)]) (HeadP.of [(3, some 40)] ⟨rfl, rfl, rfl, rfl, trivial⟩ ⟨rfl, rfl, trivial⟩) ⟨by show i + 1 ≤ sn; omega, ?_⟩ (by simp only; omega)
        dsimp only
        rw [htk]
        exact hrow.snoc _
      · rw [if_neg (by omega)] at k2
        have hgd : r.words.getD ((j : Nat) : Int).toNat ⟨noText, []⟩ = r.words[j] := by simp [hj]
        rw [hgd] at k2
        subst k2
        obtain ⟨cs, _, hcw, hv, rfl, ha, hn, hcc, rfl, hh1, hh2⟩ := SlR.cells (SlR.grow (fun _ _ h => h.grow (hg1.trans hg2)) hw1 (hg1.trans hg2)) hj
        generalize r.words[j].text = tx at hcw htk
        refine IteP.mk (fun _ => W.mk ?_) (fun h5 => by exfalso; omega)
        (conv => whnf)
        repeat' (first | (refine OblP.mk rfl (W.mk ?_); (conv => whnf)) | (refine OblP.mk ?_ (W.mk ?_); (first | trivial | omega | (simp only [inR]; omega) | exact Nat.le_of_ble_eq_true (by rfl) | exact SlR.some (by assumption) (by omega)); (conv => whnf)) | (first | (refine RdP.at (by assumption) (by rfl) (W.mk ?_); (conv => whnf)) | (refine RdP.sub (by assumption) (by rfl) (W.mk ?_); (conv => whnf)) | (refine RdP.sub2 (by assumption) (by rfl) (W.mk ?_); (conv => whnf)) | (refine RdP.sub3 (by assumption) (by rfl) (W.mk ?_); (conv => whnf))))
        refine RoundP.of (i + 1, vs ++ [Value.string tx, I ((i : Int) / r.cols + 1)]) (HeadP.of [(3, some 40)] ⟨rfl, rfl, rfl, rfl, trivial⟩ ⟨rfl, rfl, trivial⟩) ⟨by show i + 1 ≤ sn; omega, ?_⟩ (by simp only; omega)
        dsimp only
        rw [htk]
        exact hrow.snoc _
    · have hie : i = (pcF (rgOf r x)).length := by omega
      subst hie
      have hll : (lookF r x).take (pcF (rgOf r x)).length = lookF r x := List.take_of_length_le (by rw [lookF, List.length_map]; exact Nat.le_refl _)
      rw [hll] at hrow
      refine PubP.mk (fun a1 c1 G3 hg3 hp => W.mk ?_)
      (conv => whnf)
      exact FinP.mk (hrow.pub hp (by omega))
end Go.Proofs.Ytpcpjmplgladmaa

namespace Go.Proofs.Ytpcpjmplgladmaa
open Go.Pal Go.RowKit
set_option maxRecDepth 100000
theorem set3a {vs pre : List Value} {a b c a' b' c' : Value} {off : Nat} (hv : vs = pre ++ [a, b, c]) (h : off = pre.length) : vs.take off ++ [a', b', c'] ++ vs.drop (off + 3) = pre ++ [a', b', c'] := by
  subst hv; subst h
  rw [List.take_append, List.drop_append]
  simp [List.take_of_length_le, List.drop_of_length_le, show pre.length ≤ pre.length + 3 by omega, show pre.length + 3 - pre.length = 3 by omega]
theorem get3a {vs pre : List Value} {a b c : Value} {off : Nat} (hv : vs = pre ++ [a, b, c]) (h : off = pre.length) : (vs.drop off).take 3 = [a, b, c] := by
  subst hv; subst h
  rw [List.drop_append]
  simp [List.drop_of_length_le]
set_option maxHeartbeats 1000000 in
theorem closed22 : Sound Try.prog 22 id (grel (args2 rpRd rxRd fun r _ => Fine r) fun p v G => SlV shE G v (clF (rgOf p.1 p.2))) := by
  refine comp22.grel tabC (ok2 _ _ _) (fun args G s h => ?_) (fun x v G G' hg h => h.grow hg) (fun args G p h => ?_)
  · obtain ⟨v, w, rfl, _⟩ := h; simp
  · obtain ⟨r, x⟩ := p
    obtain ⟨u, v, rfl, hr, hx, hfn⟩ := h
    dsimp only at hr hx hfn
    obtain ⟨rw_, ro, rfl, hrc⟩ := id hr
    obtain ⟨m, rfl, hm⟩ := id hx
    obtain ⟨oa, on, oc, rfl, ho1, ho2⟩ := id hrc.o
    obtain ⟨wa, wn, wc, rfl, hw1, hw2⟩ := id hrc.w
    obtain ⟨ma, mn, mc, rfl, hm1, hm2⟩ := id hm
    have hwn := hw1.len
    have hon := ho1.len
    have hwl := hfn.wl
    have hord := (fine_ok hfn).1
    dsimp only
    (conv => whnf)
    refine LoopP.of { α := Nat × Nat × List Value, fr := fun y => [(2, .c (.ptr 0 0)), (3, .c (.ptr 1 0)), (5, .c (.row 4 y.2.1)), (6, .v (I y.1))], H := fun y => [(0, .cells .anon [.val (.slice wa wn wc), .val (.slice oa on oc), .val (I r.cols)] 25), (1, .cells .anon [.val (I x.year), .val (.slice ma mn mc)] 28), (4, .row none y.2.1 y.2.2 56 3)], ok := fun y _ => y.1 ≤ wn ∧ Row shE (clK (rgOf r x) y.1) y.2.1 y.2.2, m := fun y => wn - y.1 }
      (0, 0, []) (HeadP.of [(4, none)] ⟨rfl, rfl, rfl, rfl, trivial⟩ ⟨rfl, rfl, rfl, trivial⟩) ⟨Nat.zero_le _, Row.nil⟩ (fun _ => ⟨rfl, rfl⟩) (fun y G3 hg3 hx2 => W.mk ?_)
    obtain ⟨i, n, vs⟩ := y
    obtain ⟨hi, hrow⟩ := hx2
    dsimp only at hi hrow
    have hcn := hrow.n
    have hcl0 := clK_len (rgOf r x) i
    have hrg := rpRd.grow hg3 hr
    have hxg := rxRd.grow hg3 hx
    dsimp only
    (conv => whnf)
    refine IteP.mk (fun hlt => W.mk ?_) (fun hge => W.mk ?_) <;> (conv => whnf)
    rotate_left
    · have hie : i = r.words.length := by omega
      subst hie
      refine PubP.mk (fun a1 c1 G9 hg9 hp => W.mk ?_)
      (conv => whnf)
      exact FinP.mk (hrow.pub hp (by omega))
    have hlt : i < wn := by omega
    refine ScaP.g (ok3 rpRd rxRd intRd fun r _ _ => ordB r) (x := (r, x, (i : Int))) ⟨_, _, _, rfl, hrg, hxg, rfl, hord⟩ (fun v hv => W.mk ?_)
    subst hv
    dsimp only
    (conv => whnf)
    refine ForkP.mk (fun hpi => W.mk ?_) (fun hpi => W.mk ?_) <;> (conv => whnf)
    rotate_left
    · have hpi : (rgOf r x).p i = false := hpi
      repeat' (first | (refine OblP.mk ?_ (W.mk ?_); (first | trivial | omega | (simp only [inR]; omega) | exact Nat.le_of_ble_eq_true (by rfl) | exact SlR.some (by assumption) (by omega)); (conv => whnf)) | (first | (refine RdP.at (by assumption) (by rfl) (W.mk ?_); (conv => whnf)) | (refine RdP.sub (by assumption) (by rfl) (W.mk ?_); (conv => whnf)) | (refine RdP.sub2 (by assumption) (by rfl) (W.mk ?_); (conv => whnf)) | (refine RdP.sub3 (by assumption) (by rfl) (W.mk ?_); (conv => whnf))))
      refine RoundP.of (i + 1, n, vs) (HeadP.of [] ⟨rfl, rfl, rfl, rfl, trivial⟩ ⟨rfl, rfl, rfl, trivial⟩) ⟨by show i + 1 ≤ wn; omega, ?_⟩ (by simp only; omega)
      show Row shE (clK (rgOf r x) (i + 1)) n vs
      simp only [clK, hpi]
      exact hrow
    have hpi : (rgOf r x).p i = true := hpi
    refine IteP.mk (fun h0 => W.mk ?_) (fun h0 => W.mk ?_) <;> (conv => whnf)
    · have h0 : i = 0 := by have h0 : (i : Int) = 0 := h0; omega
      have hI : clI (rgOf r x) i (clK (rgOf r x) i) = clK (rgOf r x) i ++ [⟨i, 0, 0⟩] := if_pos (.inl h0)
      have hrow2 : Row shE (clI (rgOf r x) i (clK (rgOf r x) i)) (n + 1) (vs ++ [I i, I 0, I 0]) := by rw [hI]; exact hrow.snoc ⟨i, 0, 0⟩
      clear hI
      repeat' (first | (refine OblP.mk rfl (W.mk ?_); (conv => whnf)) | (refine OblP.mk (by omega) (W.mk ?_); (conv => whnf)) | (first | (refine RdP.at (by assumption) (by rfl) (W.mk ?_); (conv => whnf)) | (refine RdP.sub (by assumption) (by rfl) (W.mk ?_); (conv => whnf)) | (refine RdP.sub2 (by assumption) (by rfl) (W.mk ?_); (conv => whnf)) | (refine RdP.sub3 (by assumption) (by rfl) (W.mk ?_); (conv => whnf))))
      have hn1 : 1 ≤ (n + 1) := by have := hrow2; have h1 := this.n; omega
      obtain ⟨L0, s, hL, hvs, hpl⟩ := row_last hrow2 hn1
      have hvl : ((vs ++ [I i, I 0, I 0])).length = (L0.map shE.f).flatten.length + 3 := by rw [hvs]; simp
      generalize hpre : (L0.map shE.f).flatten = pre at hpl hvs hvl
      have hoff : ((((n + 1) : Nat) : Int) - 1).toNat * 3 = pre.length := by rw [hpl]; congr 1; omega
      obtain ⟨sf, st, sy⟩ := s
      have hcl : clK (rgOf r x) (i + 1) = L0 ++ [⟨sf, (i : Int) + 1, r.orders.foldl (yrS x i) sy⟩] := by
        simp only [clK, hpi, if_true]
        rw [hL, setL_snoc, lastY_snoc]; rfl
      repeat' (first | (refine OblP.mk (by simp only [inR]; omega) (W.mk ?_); (conv => whnf)) | (refine OblP.mk ⟨by omega, by omega⟩ (W.mk ?_); (conv => whnf)) | (refine OblP.mk rfl (W.mk ?_); (conv => whnf)) | (first | (refine RdP.at (by assumption) (by rfl) (W.mk ?_); (conv => whnf)) | (refine RdP.sub (by assumption) (by rfl) (W.mk ?_); (conv => whnf)) | (refine RdP.sub2 (by assumption) (by rfl) (W.mk ?_); (conv => whnf)) | (refine RdP.sub3 (by assumption) (by rfl) (W.mk ?_); (conv => whnf))))
      refine EqP.mk ⟨_, get3a (vs := (vs ++ [I i, I 0, I 0])) hvs hoff, rfl, W.mk ?_⟩
      (conv => whnf)
      repeat' (first | (refine OblP.mk (by simp only [inR]; omega) (W.mk ?_); (conv => whnf)) | (refine OblP.mk ⟨by omega, by omega⟩ (W.mk ?_); (conv => whnf)) | (refine OblP.mk rfl (W.mk ?_); (conv => whnf)) | (first | (refine RdP.at (by assumption) (by rfl) (W.mk ?_); (conv => whnf)) | (refine RdP.sub (by assumption) (by rfl) (W.mk ?_); (conv => whnf)) | (refine RdP.sub2 (by assumption) (by rfl) (W.mk ?_); (conv => whnf)) | (refine RdP.sub3 (by assumption) (by rfl) (W.mk ?_); (conv => whnf))))
      have hIn : ∀ z, Row shE (L0 ++ [z]) (n + 1) (pre ++ [I z.f, I z.t, I z.y]) := fun z => ⟨by have h1 := (hrow2).n; rw [h1, hL]; simp, by rw [← hpre]; simp [shE]⟩
      refine LoopP.of { α := Nat × Int, fr := fun y => [(2, .c (.ptr 0 0)), (3, .c (.ptr 1 0)), (5, .c (.row 29 (n + 1))), (6, .v (I i)), (7, .c (.ptr 37 0)), (8, .v (I y.1))], H := fun y => [(0, .cells .anon [.val (.slice wa wn wc), .val (.slice oa on oc), .val (I r.cols)] 25), (1, .cells .anon [.val (I x.year), .val (.slice ma mn mc)] 28), (29, .row none (n + 1) ((vs ++ [I i, I 0, I 0])) 56 3), (37, .cells .anon [.val (I sf), .val (I ((i : Int) + 1)), .val (I y.2)] 56)], ok := fun y _ => y.1 ≤ on ∧ y.2 = (r.orders.take y.1).foldl (yrS x i) sy, m := fun y => on - y.1 }
        (0, sy) (HeadP.of [] ⟨rfl, rfl, rfl, rfl, rfl, rfl, trivial⟩ ⟨rfl, rfl, rfl, rfl, trivial⟩) ⟨Nat.zero_le _, rfl⟩ (fun _ => ⟨rfl, rfl⟩) (fun y G4 hg4 hx => W.mk ?_)
      obtain ⟨k, yy⟩ := y
      obtain ⟨hk, hyy⟩ := hx
      dsimp only at hk hyy
      dsimp only
      (conv => whnf)
      refine IteP.mk (fun hlt => W.mk ?_) (fun hge => W.mk ?_) <;> (conv => whnf)
      · have hlt : k < r.orders.length := by omega
        have hc := (SlR.grow (G := G) (G' := G4) (fun _ _ h => h) ho1 (hg3.trans hg4)).el hlt
        have htk := take_snoc (List.getElem?_eq_getElem hlt)
        have hb := hfn.o _ (List.getElem_mem hlt)
        generalize r.orders[k] = o at hc htk hb
        have hc : CellsAt G4 (ab oa) (ao oa + k * 4) [I o.f, I o.t, I o.k, I o.u] := hc
        have hst : (r.orders.take (k + 1)).foldl (yrS x i) sy = yrS x i yy o := by rw [htk, List.foldl_append, hyy]; rfl
        have hyr : yrS x i yy o = if shutsF x o && inF i o.f (o.t - 1) then max yy o.u else yy := rfl
        have hsf : shutsF x o = !x.may.contains o.k := rfl
        repeat' (first | (refine OblP.mk ?_ (W.mk ?_); (first | trivial | omega | (simp only [inR]; omega) | exact Nat.le_of_ble_eq_true (by rfl) | exact SlR.some (by assumption) (by omega)); (conv => whnf)) | (first | (refine RdP.at (by assumption) (by rfl) (W.mk ?_); (conv => whnf)) | (refine RdP.sub (by assumption) (by rfl) (W.mk ?_); (conv => whnf)) | (refine RdP.sub2 (by assumption) (by rfl) (W.mk ?_); (conv => whnf)) | (refine RdP.sub3 (by assumption) (by rfl) (W.mk ?_); (conv => whnf))))
        refine ScaP.g (ok2 (slRd intE) intRd fun _ _ => True) (x := (x.may, o.k)) ⟨_, _, rfl, (hm.grow hg3).grow hg4, rfl, trivial⟩ (fun v hv => W.mk ?_)
        subst hv
        dsimp only
        (conv => whnf)
        refine ForkP.mk (fun hq => W.mk ?_) (fun hq => W.mk ?_) <;> (conv => whnf)
        · rw [hsf, hq] at hyr
          rw [Bool.not_true, Bool.false_and, if_neg (by simp)] at hyr
          repeat' (first | (refine OblP.mk ?_ (W.mk ?_); (first | trivial | omega | (simp only [inR]; omega) | exact Nat.le_of_ble_eq_true (by rfl) | exact SlR.some (by assumption) (by omega)); (conv => whnf)) | (first | (refine RdP.at (by assumption) (by rfl) (W.mk ?_); (conv => whnf)) | (refine RdP.sub (by assumption) (by rfl) (W.mk ?_); (conv => whnf)) | (refine RdP.sub2 (by assumption) (by rfl) (W.mk ?_); (conv => whnf)) | (refine RdP.sub3 (by assumption) (by rfl) (W.mk ?_); (conv => whnf))))
          refine RoundP.of (k + 1, yy) (HeadP.of [] ⟨rfl, rfl, rfl, rfl, rfl, rfl, trivial⟩ ⟨rfl, rfl, rfl, rfl, trivial⟩) ⟨by show k + 1 ≤ on; omega, by rw [hst, hyr]⟩ (by simp only; omega)
        rw [hsf, hq] at hyr
        repeat' (first | (refine OblP.mk ?_ (W.mk ?_); (first | trivial | omega | (simp only [inR]; omega) | exact Nat.le_of_ble_eq_true (by rfl) | exact SlR.some (by assumption) (by omega)); (conv => whnf)) | (first | (refine RdP.at (by assumption) (by rfl) (W.mk ?_); (conv => whnf)) | (refine RdP.sub (by assumption) (by rfl) (W.mk ?_); (conv => whnf)) | (refine RdP.sub2 (by assumption) (by rfl) (W.mk ?_); (conv => whnf)) | (refine RdP.sub3 (by assumption) (by rfl) (W.mk ?_); (conv => whnf))))
        refine OblP.mk ⟨_, _, _, rfl⟩ (W.mk ?_)
        (conv => whnf)
        refine ForkP.mk (fun hq2 => W.mk ?_) (fun hq2 => W.mk ?_) <;> (conv => whnf)
        rotate_left
        · have hq2 : inF i o.f (o.t - 1) = false := hq2
          rw [hq2, Bool.and_false, if_neg (by simp)] at hyr
          repeat' (first | (refine OblP.mk ?_ (W.mk ?_); (first | trivial | omega | (simp only [inR]; omega) | exact Nat.le_of_ble_eq_true (by rfl) | exact SlR.some (by assumption) (by omega)); (conv => whnf)) | (first | (refine RdP.at (by assumption) (by rfl) (W.mk ?_); (conv => whnf)) | (refine RdP.sub (by assumption) (by rfl) (W.mk ?_); (conv => whnf)) | (refine RdP.sub2 (by assumption) (by rfl) (W.mk ?_); (conv => whnf)) | (refine RdP.sub3 (by assumption) (by rfl) (W.mk ?_); (conv => whnf))))
          refine RoundP.of (k + 1, yy) (HeadP.of [] ⟨rfl, rfl, rfl, rfl, rfl, rfl, trivial⟩ ⟨rfl, rfl, rfl, rfl, trivial⟩) ⟨by show k + 1 ≤ on; omega, by rw [hst, hyr]⟩ (by simp only; omega)
        have hq2 : inF i o.f (o.t - 1) = true := hq2
        rw [hq2, Bool.not_false, Bool.true_and, if_pos rfl] at hyr
        repeat' (first | (refine OblP.mk ?_ (W.mk ?_); (first | trivial | omega | (simp only [inR]; omega) | exact Nat.le_of_ble_eq_true (by rfl) | exact SlR.some (by assumption) (by omega)); (conv => whnf)) | (first | (refine RdP.at (by assumption) (by rfl) (W.mk ?_); (conv => whnf)) | (refine RdP.sub (by assumption) (by rfl) (W.mk ?_); (conv => whnf)) | (refine RdP.sub2 (by assumption) (by rfl) (W.mk ?_); (conv => whnf)) | (refine RdP.sub3 (by assumption) (by rfl) (W.mk ?_); (conv => whnf))))
        refine RoundP.of (k + 1, max yy o.u) (HeadP.of [] ⟨rfl, rfl, rfl, rfl, rfl, rfl, trivial⟩ ⟨rfl, rfl, rfl, rfl, trivial⟩) ⟨by show k + 1 ≤ on; omega, by rw [hst, hyr]⟩ (by simp only; omega)
      · have hke : k = r.orders.length := by omega
        rw [hke, List.take_length] at hyy
        repeat' (first | (refine OblP.mk (by simp only [inR]; omega) (W.mk ?_); (conv => whnf)) | (refine OblP.mk ⟨by omega, by omega⟩ (W.mk ?_); (conv => whnf)) | (refine OblP.mk rfl (W.mk ?_); (conv => whnf)) | (first | (refine RdP.at (by assumption) (by rfl) (W.mk ?_); (conv => whnf)) | (refine RdP.sub (by assumption) (by rfl) (W.mk ?_); (conv => whnf)) | (refine RdP.sub2 (by assumption) (by rfl) (W.mk ?_); (conv => whnf)) | (refine RdP.sub3 (by assumption) (by rfl) (W.mk ?_); (conv => whnf))))
        refine OblP.mk (by show _ ≤ List.length ((vs ++ [I i, I 0, I 0])); rw [hvl, hoff]; omega) (W.mk ?_)
        refine den_setR_eq (set3a (vs := (vs ++ [I i, I 0, I 0])) hvs hoff) ?_
        (conv => whnf)
        repeat' (first | (refine OblP.mk ?_ (W.mk ?_); (first | trivial | omega | (simp only [inR]; omega) | exact Nat.le_of_ble_eq_true (by rfl) | exact SlR.some (by assumption) (by omega)); (conv => whnf)) | (first | (refine RdP.at (by assumption) (by rfl) (W.mk ?_); (conv => whnf)) | (refine RdP.sub (by assumption) (by rfl) (W.mk ?_); (conv => whnf)) | (refine RdP.sub2 (by assumption) (by rfl) (W.mk ?_); (conv => whnf)) | (refine RdP.sub3 (by assumption) (by rfl) (W.mk ?_); (conv => whnf))))
        refine RoundP.of (i + 1, (n + 1), pre ++ [I sf, I ((i : Int) + 1), I yy]) (HeadP.of [(4, some 29)] ⟨rfl, rfl, rfl, rfl, trivial⟩ ⟨rfl, rfl, rfl, trivial⟩) ⟨by show i + 1 ≤ wn; omega, ?_⟩ (by simp only; omega)
        rw [hcl, ← hyy]
        exact hIn ⟨sf, (i : Int) + 1, yy⟩
    · have h0 : ¬ i = 0 := by have h0 : ¬ (i : Int) = 0 := h0; omega
      have hcast : ((i - 1 : Nat) : Int) = (i : Int) - 1 := by omega
      repeat' (first | (refine OblP.mk ?_ (W.mk ?_); (first | trivial | omega | (simp only [inR]; omega) | exact Nat.le_of_ble_eq_true (by rfl) | exact SlR.some (by assumption) (by omega)); (conv => whnf)) | (first | (refine RdP.at (by assumption) (by rfl) (W.mk ?_); (conv => whnf)) | (refine RdP.sub (by assumption) (by rfl) (W.mk ?_); (conv => whnf)) | (refine RdP.sub2 (by assumption) (by rfl) (W.mk ?_); (conv => whnf)) | (refine RdP.sub3 (by assumption) (by rfl) (W.mk ?_); (conv => whnf))))
      refine ScaP.g (ok3 rpRd rxRd intRd fun r _ _ => ordB r) (x := (r, x, (i : Int) - 1)) ⟨_, _, _, rfl, hrg, hxg, rfl, hord⟩ (fun v hv => W.mk ?_)
      subst hv
      dsimp only
      (conv => whnf)
      refine ForkP.mk (fun hpj => W.mk ?_) (fun hpj => W.mk ?_) <;> (conv => whnf)
      · have hpj : (rgOf r x).p (i - 1) = true := by show hidF r x ((i - 1 : Nat) : Int) = true; rw [hcast]; exact hpj
        have hI : clI (rgOf r x) i (clK (rgOf r x) i) = clK (rgOf r x) i := if_neg (by rw [hpj]; simp; exact h0)
        have hrow2 : Row shE (clI (rgOf r x) i (clK (rgOf r x) i)) n vs := by rw [hI]; exact hrow
        clear hI
        have hn0 : 1 ≤ n := by
          have h5 := clK_ne (rgOf r x) (i - 1) hpj
          rw [show i - 1 + 1 = i by omega] at h5
          have := List.length_pos_iff.2 h5
          omega
        repeat' (first | (refine OblP.mk rfl (W.mk ?_); (conv => whnf)) | (refine OblP.mk (by omega) (W.mk ?_); (conv => whnf)) | (first | (refine RdP.at (by assumption) (by rfl) (W.mk ?_); (conv => whnf)) | (refine RdP.sub (by assumption) (by rfl) (W.mk ?_); (conv => whnf)) | (refine RdP.sub2 (by assumption) (by rfl) (W.mk ?_); (conv => whnf)) | (refine RdP.sub3 (by assumption) (by rfl) (W.mk ?_); (conv => whnf))))
        have hn1 : 1 ≤ n := by have := hrow2; have h1 := this.n; omega
        obtain ⟨L0, s, hL, hvs, hpl⟩ := row_last hrow2 hn1
        have hvl : (vs).length = (L0.map shE.f).flatten.length + 3 := by rw [hvs]; simp
        generalize hpre : (L0.map shE.f).flatten = pre at hpl hvs hvl
        have hoff : (((n : Nat) : Int) - 1).toNat * 3 = pre.length := by rw [hpl]; congr 1; omega
        obtain ⟨sf, st, sy⟩ := s
        have hcl : clK (rgOf r x) (i + 1) = L0 ++ [⟨sf, (i : Int) + 1, r.orders.foldl (yrS x i) sy⟩] := by
          simp only [clK, hpi, if_true]
          rw [hL, setL_snoc, lastY_snoc]; rfl
        repeat' (first | (refine OblP.mk (by simp only [inR]; omega) (W.mk ?_); (conv => whnf)) | (refine OblP.mk ⟨by omega, by omega⟩ (W.mk ?_); (conv => whnf)) | (refine OblP.mk rfl (W.mk ?_); (conv => whnf)) | (first | (refine RdP.at (by assumption) (by rfl) (W.mk ?_); (conv => whnf)) | (refine RdP.sub (by assumption) (by rfl) (W.mk ?_); (conv => whnf)) | (refine RdP.sub2 (by assumption) (by rfl) (W.mk ?_); (conv => whnf)) | (refine RdP.sub3 (by assumption) (by rfl) (W.mk ?_); (conv => whnf))))
        refine EqP.mk ⟨_, get3a (vs := vs) hvs hoff, rfl, W.mk ?_⟩
        (conv => whnf)
        repeat' (first | (refine OblP.mk (by simp only [inR]; omega) (W.mk ?_); (conv => whnf)) | (refine OblP.mk ⟨by omega, by omega⟩ (W.mk ?_); (conv => whnf)) | (refine OblP.mk rfl (W.mk ?_); (conv => whnf)) | (first | (refine RdP.at (by assumption) (by rfl) (W.mk ?_); (conv => whnf)) | (refine RdP.sub (by assumption) (by rfl) (W.mk ?_); (conv => whnf)) | (refine RdP.sub2 (by assumption) (by rfl) (W.mk ?_); (conv => whnf)) | (refine RdP.sub3 (by assumption) (by rfl) (W.mk ?_); (conv => whnf))))
        have hIn : ∀ z, Row shE (L0 ++ [z]) n (pre ++ [I z.f, I z.t, I z.y]) := fun z => ⟨by have h1 := (hrow2).n; rw [h1, hL]; simp, by rw [← hpre]; simp [shE]⟩
        refine LoopP.of { α := Nat × Int, fr := fun y => [(2, .c (.ptr 0 0)), (3, .c (.ptr 1 0)), (5, .c (.row 4 n)), (6, .v (I i)), (7, .c (.ptr 37 0)), (8, .v (I y.1))], H := fun y => [(0, .cells .anon [.val (.slice wa wn wc), .val (.slice oa on oc), .val (I r.cols)] 25), (1, .cells .anon [.val (I x.year), .val (.slice ma mn mc)] 28), (4, .row none n (vs) 56 3), (37, .cells .anon [.val (I sf), .val (I ((i : Int) + 1)), .val (I y.2)] 56)], ok := fun y _ => y.1 ≤ on ∧ y.2 = (r.orders.take y.1).foldl (yrS x i) sy, m := fun y => on - y.1 }
          (0, sy) (HeadP.of [] ⟨rfl, rfl, rfl, rfl, rfl, rfl, trivial⟩ ⟨rfl, rfl, rfl, rfl, trivial⟩) ⟨Nat.zero_le _, rfl⟩ (fun _ => ⟨rfl, rfl⟩) (fun y G4 hg4 hx => W.mk ?_)
        obtain ⟨k, yy⟩ := y
        obtain ⟨hk, hyy⟩ := hx
        dsimp only at hk hyy
        dsimp only
        (conv => whnf)
        refine IteP.mk (fun hlt => W.mk ?_) (fun hge => W.mk ?_) <;> (conv => whnf)
        · have hlt : k < r.orders.length := by omega
          have hc := (SlR.grow (G := G) (G' := G4) (fun _ _ h => h) ho1 (hg3.trans hg4)).el hlt
          have htk := take_snoc (List.getElem?_eq_getElem hlt)
          have hb := hfn.o _ (List.getElem_mem hlt)
          generalize r.orders[k] = o at hc htk hb
          have hc : CellsAt G4 (ab oa) (ao oa + k * 4) [I o.f, I o.t, I o.k, I o.u] := hc
          have hst : (r.orders.take (k + 1)).foldl (yrS x i) sy = yrS x i yy o := by rw [htk, List.foldl_append, hyy]; rfl
          have hyr : yrS x i yy o = if shutsF x o && inF i o.f (o.t - 1) then max yy o.u else yy := rfl
          have hsf : shutsF x o = !x.may.contains o.k := rfl
          repeat' (first | (refine OblP.mk ?_ (W.mk ?_); (first | trivial | omega | (simp only [inR]; omega) | exact Nat.le_of_ble_eq_true (by rfl) | exact SlR.some (by assumption) (by omega)); (conv => whnf)) | (first | (refine RdP.at (by assumption) (by rfl) (W.mk ?_); (conv => whnf)) | (refine RdP.sub (by assumption) (by rfl) (W.mk ?_); (conv => whnf)) | (refine RdP.sub2 (by assumption) (by rfl) (W.mk ?_); (conv => whnf)) | (refine RdP.sub3 (by assumption) (by rfl) (W.mk ?_); (conv => whnf))))
          refine ScaP.g (ok2 (slRd intE) intRd fun _ _ => True) (x := (x.may, o.k)) ⟨_, _, rfl, (hm.grow hg3).grow hg4, rfl, trivial⟩ (fun v hv => W.mk ?_)
          subst hv
          dsimp only
          (conv => whnf)
          refine ForkP.mk (fun hq => W.mk ?_) (fun hq => W.mk ?_) <;> (conv => whnf)
          · rw [hsf, hq] at hyr
            rw [Bool.not_true, Bool.false_and, if_neg (by simp)] at hyr
            repeat' (first | (refine OblP.mk ?_ (W.mk ?_); (first | trivial | omega | (simp only [inR]; omega) | exact Nat.le_of_ble_eq_true (by rfl) | exact SlR.some (by assumption) (by omega)); (conv => whnf)) | (first | (refine RdP.at (by assumption) (by rfl) (W.mk ?_); (conv => whnf)) | (refine RdP.sub (by assumption) (by rfl) (W.mk ?_); (conv => whnf)) | (refine RdP.sub2 (by assumption) (by rfl) (W.mk ?_); (conv => whnf)) | (refine RdP.sub3 (by assumption) (by rfl) (W.mk ?_); (conv => whnf))))
            refine RoundP.of (k + 1, yy) (HeadP.of [] ⟨rfl, rfl, rfl, rfl, rfl, rfl, trivial⟩ ⟨rfl, rfl, rfl, rfl, trivial⟩) ⟨by show k + 1 ≤ on; omega, by rw [hst, hyr]⟩ (by simp only; omega)
          rw [hsf, hq] at hyr
          repeat' (first | (refine OblP.mk ?_ (W.mk ?_); (first | trivial | omega | (simp only [inR]; omega) | exact Nat.le_of_ble_eq_true (by rfl) | exact SlR.some (by assumption) (by omega)); (conv => whnf)) | (first | (refine RdP.at (by assumption) (by rfl) (W.mk ?_); (conv => whnf)) | (refine RdP.sub (by assumption) (by rfl) (W.mk ?_); (conv => whnf)) | (refine RdP.sub2 (by assumption) (by rfl) (W.mk ?_); (conv => whnf)) | (refine RdP.sub3 (by assumption) (by rfl) (W.mk ?_); (conv => whnf))))
          refine OblP.mk ⟨_, _, _, rfl⟩ (W.mk ?_)
          (conv => whnf)
          refine ForkP.mk (fun hq2 => W.mk ?_) (fun hq2 => W.mk ?_) <;> (conv => whnf)
          rotate_left
          · have hq2 : inF i o.f (o.t - 1) = false := hq2
            rw [hq2, Bool.and_false, if_neg (by simp)] at hyr
            repeat' (first | (refine OblP.mk ?_ (W.mk ?_); (first | trivial | omega | (simp only [inR]; omega) | exact Nat.le_of_ble_eq_true (by rfl) | exact SlR.some (by assumption) (by omega)); (conv => whnf)) | (first | (refine RdP.at (by assumption) (by rfl) (W.mk ?_); (conv => whnf)) | (refine RdP.sub (by assumption) (by rfl) (W.mk ?_); (conv => whnf)) | (refine RdP.sub2 (by assumption) (by rfl) (W.mk ?_); (conv => whnf)) | (refine RdP.sub3 (by assumption) (by rfl) (W.mk ?_); (conv => whnf))))
            refine RoundP.of (k + 1, yy) (HeadP.of [] ⟨rfl, rfl, rfl, rfl, rfl, rfl, trivial⟩ ⟨rfl, rfl, rfl, rfl, trivial⟩) ⟨by show k + 1 ≤ on; omega, by rw [hst, hyr]⟩ (by simp only; omega)
          have hq2 : inF i o.f (o.t - 1) = true := hq2
          rw [hq2, Bool.not_false, Bool.true_and, if_pos rfl] at hyr
          repeat' (first | (refine OblP.mk ?_ (W.mk ?_); (first | trivial | omega | (simp only [inR]; omega) | exact Nat.le_of_ble_eq_true (by rfl) | exact SlR.some (by assumption) (by omega)); (conv => whnf)) | (first | (refine RdP.at (by assumption) (by rfl) (W.mk ?_); (conv => whnf)) | (refine RdP.sub (by assumption) (by rfl) (W.mk ?_); (conv => whnf)) | (refine RdP.sub2 (by assumption) (by rfl) (W.mk ?_); (conv => whnf)) | (refine RdP.sub3 (by assumption) (by rfl) (W.mk ?_); (conv => whnf))))
          refine RoundP.of (k + 1, max yy o.u) (HeadP.of [] ⟨rfl, rfl, rfl, rfl, rfl, rfl, trivial⟩ ⟨rfl, rfl, rfl, rfl, trivial⟩) ⟨by show k + 1 ≤ on; omega, by rw [hst, hyr]⟩ (by simp only; omega)
        · have hke : k = r.orders.length := by omega
          rw [hke, List.take_length] at hyy
          repeat' (first | (refine OblP.mk (by simp only [inR]; omega) (W.mk ?_); (conv => whnf)) | (refine OblP.mk ⟨by omega, by omega⟩ (W.mk ?_); (conv => whnf)) | (refine OblP.mk rfl (W.mk ?_); (conv => whnf)) | (first | (refine RdP.at (by assumption) (by rfl) (W.mk ?_); (conv => whnf)) | (refine RdP.sub (by assumption) (by rfl) (W.mk ?_); (conv => whnf)) | (refine RdP.sub2 (by assumption) (by rfl) (W.mk ?_); (conv => whnf)) | (refine RdP.sub3 (by assumption) (by rfl) (W.mk ?_); (conv => whnf))))
          refine OblP.mk (by show _ ≤ List.length (vs); rw [hvl, hoff]; omega) (W.mk ?_)
          refine den_setR_eq (set3a (vs := vs) hvs hoff) ?_
          (conv => whnf)
          repeat' (first | (refine OblP.mk ?_ (W.mk ?_); (first | trivial | omega | (simp only [inR]; omega) | exact Nat.le_of_ble_eq_true (by rfl) | exact SlR.some (by assumption) (by omega)); (conv => whnf)) | (first | (refine RdP.at (by assumption) (by rfl) (W.mk ?_); (conv => whnf)) | (refine RdP.sub (by assumption) (by rfl) (W.mk ?_); (conv => whnf)) | (refine RdP.sub2 (by assumption) (by rfl) (W.mk ?_); (conv => whnf)) | (refine RdP.sub3 (by assumption) (by rfl) (W.mk ?_); (conv => whnf))))
          refine RoundP.of (i + 1, n, pre ++ [I sf, I ((i : Int) + 1), I yy]) (HeadP.of [] ⟨rfl, rfl, rfl, rfl, trivial⟩ ⟨rfl, rfl, rfl, trivial⟩) ⟨by show i + 1 ≤ wn; omega, ?_⟩ (by simp only; omega)
          rw [hcl, ← hyy]
          exact hIn ⟨sf, (i : Int) + 1, yy⟩
      · have hpj : (rgOf r x).p (i - 1) = false := by show hidF r x ((i - 1 : Nat) : Int) = false; rw [hcast]; exact hpj
        have hI : clI (rgOf r x) i (clK (rgOf r x) i) = clK (rgOf r x) i ++ [⟨i, 0, 0⟩] := if_pos (.inr hpj)
        have hrow2 : Row shE (clI (rgOf r x) i (clK (rgOf r x) i)) (n + 1) (vs ++ [I i, I 0, I 0]) := by rw [hI]; exact hrow.snoc ⟨i, 0, 0⟩
        clear hI
        repeat' (first | (refine OblP.mk rfl (W.mk ?_); (conv => whnf)) | (refine OblP.mk (by omega) (W.mk ?_); (conv => whnf)) | (first | (refine RdP.at (by assumption) (by rfl) (W.mk ?_); (conv => whnf)) | (refine RdP.sub (by assumption) (by rfl) (W.mk ?_); (conv => whnf)) | (refine RdP.sub2 (by assumption) (by rfl) (W.mk ?_); (conv => whnf)) | (refine RdP.sub3 (by assumption) (by rfl) (W.mk ?_); (conv => whnf))))
        have hn1 : 1 ≤ (n + 1) := by have := hrow2; have h1 := this.n; omega
        obtain ⟨L0, s, hL, hvs, hpl⟩ := row_last hrow2 hn1
        have hvl : ((vs ++ [I i, I 0, I 0])).length = (L0.map shE.f).flatten.length + 3 := by rw [hvs]; simp
        generalize hpre : (L0.map shE.f).flatten = pre at hpl hvs hvl
        have hoff : ((((n + 1) : Nat) : Int) - 1).toNat * 3 = pre.length := by rw [hpl]; congr 1; omega
        obtain ⟨sf, st, sy⟩ := s
        have hcl : clK (rgOf r x) (i + 1) = L0 ++ [⟨sf, (i : Int) + 1, r.orders.foldl (yrS x i) sy⟩] := by
          simp only [clK, hpi, if_true]
          rw [hL, setL_snoc, lastY_snoc]; rfl
        repeat' (first | (refine OblP.mk (by simp only [inR]; omega) (W.mk ?_); (conv => whnf)) | (refine OblP.mk ⟨by omega, by omega⟩ (W.mk ?_); (conv => whnf)) | (refine OblP.mk rfl (W.mk ?_); (conv => whnf)) | (first | (refine RdP.at (by assumption) (by rfl) (W.mk ?_); (conv => whnf)) | (refine RdP.sub (by assumption) (by rfl) (W.mk ?_); (conv => whnf)) | (refine RdP.sub2 (by assumption) (by rfl) (W.mk ?_); (conv => whnf)) | (refine RdP.sub3 (by assumption) (by rfl) (W.mk ?_); (conv => whnf))))
        refine EqP.mk ⟨_, get3a (vs := (vs ++ [I i, I 0, I 0])) hvs hoff, rfl, W.mk ?_⟩
        (conv => whnf)
        repeat' (first | (refine OblP.mk (by simp only [inR]; omega) (W.mk ?_); (conv => whnf)) | (refine OblP.mk ⟨by omega, by omega⟩ (W.mk ?_); (conv => whnf)) | (refine OblP.mk rfl (W.mk ?_); (conv => whnf)) | (first | (refine RdP.at (by assumption) (by rfl) (W.mk ?_); (conv => whnf)) | (refine RdP.sub (by assumption) (by rfl) (W.mk ?_); (conv => whnf)) | (refine RdP.sub2 (by assumption) (by rfl) (W.mk ?_); (conv => whnf)) | (refine RdP.sub3 (by assumption) (by rfl) (W.mk ?_); (conv => whnf))))
        have hIn : ∀ z, Row shE (L0 ++ [z]) (n + 1) (pre ++ [I z.f, I z.t, I z.y]) := fun z => ⟨by have h1 := (hrow2).n; rw [h1, hL]; simp, by rw [← hpre]; simp [shE]⟩
        refine LoopP.of { α := Nat × Int, fr := fun y => [(2, .c (.ptr 0 0)), (3, .c (.ptr 1 0)), (5, .c (.row 29 (n + 1))), (6, .v (I i)), (7, .c (.ptr 37 0)), (8, .v (I y.1))], H := fun y => [(0, .cells .anon [.val (.slice wa wn wc), .val (.slice oa on oc), .val (I r.cols)] 25), (1, .cells .anon [.val (I x.year), .val (.slice ma mn mc)] 28), (29, .row none (n + 1) ((vs ++ [I i, I 0, I 0])) 56 3), (37, .cells .anon [.val (I sf), .val (I ((i : Int) + 1)), .val (I y.2)] 56)], ok := fun y _ => y.1 ≤ on ∧ y.2 = (r.orders.take y.1).foldl (yrS x i) sy, m := fun y => on - y.1 }
          (0, sy) (HeadP.of [] ⟨rfl, rfl, rfl, rfl, rfl, rfl, trivial⟩ ⟨rfl, rfl, rfl, rfl, trivial⟩) ⟨Nat.zero_le _, rfl⟩ (fun _ => ⟨rfl, rfl⟩) (fun y G4 hg4 hx => W.mk ?_)
        obtain ⟨k, yy⟩ := y
        obtain ⟨hk, hyy⟩ := hx
        dsimp only at hk hyy
        dsimp only
        (conv => whnf)
        refine IteP.mk (fun hlt => W.mk ?_) (fun hge => W.mk ?_) <;> (conv => whnf)
        · have hlt : k < r.orders.length := by omega
          have hc := (SlR.grow (G := G) (G' := G4) (fun _ _ h => h) ho1 (hg3.trans hg4)).el hlt
          have htk := take_snoc (List.getElem?_eq_getElem hlt)
          have hb := hfn.o _ (List.getElem_mem hlt)
          generalize r.orders[k] = o at hc htk hb
          have hc : CellsAt G4 (ab oa) (ao oa + k * 4) [I o.f, I o.t, I o.k, I o.u] := hc
          have hst : (r.orders.take (k + 1)).foldl (yrS x i) sy = yrS x i yy o := by rw [htk, List.foldl_append, hyy]; rfl
          have hyr : yrS x i yy o = if shutsF x o && inF i o.f (o.t - 1) then max yy o.u else yy := rfl
          have hsf : shutsF x o = !x.may.contains o.k := rfl
          repeat' (first | (refine OblP.mk ?_ (W.mk ?_); (first | trivial | omega | (simp only [inR]; omega) | exact Nat.le_of_ble_eq_true (by rfl) | exact SlR.some (by assumption) (by omega)); (conv => whnf)) | (first | (refine RdP.at (by assumption) (by rfl) (W.mk ?_); (conv => whnf)) | (refine RdP.sub (by assumption) (by rfl) (W.mk ?_); (conv => whnf)) | (refine RdP.sub2 (by assumption) (by rfl) (W.mk ?_); (conv => whnf)) | (refine RdP.sub3 (by assumption) (by rfl) (W.mk ?_); (conv => whnf))))
          refine ScaP.g (ok2 (slRd intE) intRd fun _ _ => True) (x := (x.may, o.k)) ⟨_, _, rfl, (hm.grow hg3).grow hg4, rfl, trivial⟩ (fun v hv => W.mk ?_)
          subst hv
          dsimp only
          (conv => whnf)
          refine ForkP.mk (fun hq => W.mk ?_) (fun hq => W.mk ?_) <;> (conv => whnf)
          · rw [hsf, hq] at hyr
            rw [Bool.not_true, Bool.false_and, if_neg (by simp)] at hyr
            repeat' (first | (refine OblP.mk ?_ (W.mk ?_); (first | trivial | omega | (simp only [inR]; omega) | exact Nat.le_of_ble_eq_true (by rfl) | exact SlR.some (by assumption) (by omega)); (conv => whnf)) | (first | (refine RdP.at (by assumption) (by rfl) (W.mk ?_); (conv => whnf)) | (refine RdP.sub (by assumption) (by rfl) (W.mk ?_); (conv => whnf)) | (refine RdP.sub2 (by assumption) (by rfl) (W.mk ?_); (conv => whnf)) | (refine RdP.sub3 (by assumption) (by rfl) (W.mk ?_); (conv => whnf))))
            refine RoundP.of (k + 1, yy) (HeadP.of [] ⟨rfl, rfl, rfl, rfl, rfl, rfl, trivial⟩ ⟨rfl, rfl, rfl, rfl, trivial⟩) ⟨by show k + 1 ≤ on; omega, by rw [hst, hyr]⟩ (by simp only; omega)
          rw [hsf, hq] at hyr
          repeat' (first | (refine OblP.mk ?_ (W.mk ?_); (first | trivial | omega | (simp only [inR]; omega) | exact Nat.le_of_ble_eq_true (by rfl) | exact SlR.some (by assumption) (by omega)); (conv => whnf)) | (first | (refine RdP.at (by assumption) (by rfl) (W.mk ?_); (conv => whnf)) | (refine RdP.sub (by assumption) (by rfl) (W.mk ?_); (conv => whnf)) | (refine RdP.sub2 (by assumption) (by rfl) (W.mk ?_); (conv => whnf)) | (refine RdP.sub3 (by assumption) (by rfl) (W.mk ?_); (conv => whnf))))
          refine OblP.mk ⟨_, _, _, rfl⟩ (W.mk ?_)
          (conv => whnf)
          refine ForkP.mk (fun hq2 => W.mk ?_) (fun hq2 => W.mk ?_) <;> (conv => whnf)
          rotate_left
          · have hq2 : inF i o.f (o.t - 1) = false := hq2
            rw [hq2, Bool.and_false, if_neg (by simp)] at hyr
            repeat' (first | (refine OblP.mk ?_ (W.mk ?_); (first | trivial | omega | (simp only [inR]; omega) | exact Nat.le_of_ble_eq_true (by rfl) | exact SlR.some (by assumption) (by omega)); (conv => whnf)) | (first | (refine RdP.at (by assumption) (by rfl) (W.mk ?_); (conv => whnf)) | (refine RdP.sub (by assumption) (by rfl) (W.mk ?_); (conv => whnf)) | (refine RdP.sub2 (by assumption) (by rfl) (W.mk ?_); (conv => whnf)) | (refine RdP.sub3 (by assumption) (by rfl) (W.mk ?_); (conv => whnf))))
            refine RoundP.of (k + 1, yy) (HeadP.of [] ⟨rfl, rfl, rfl, rfl, rfl, rfl, trivial⟩ ⟨rfl, rfl, rfl, rfl, trivial⟩) ⟨by show k + 1 ≤ on; omega, by rw [hst, hyr]⟩ (by simp only; omega)
          have hq2 : inF i o.f (o.t - 1) = true := hq2
          rw [hq2, Bool.not_false, Bool.true_and, if_pos rfl] at hyr
          repeat' (first | (refine OblP.mk ?_ (W.mk ?_); (first | trivial | omega | (simp only [inR]; omega) | exact Nat.le_of_ble_eq_true (by rfl) | exact SlR.some (by assumption) (by omega)); (conv => whnf)) | (first | (refine RdP.at (by assumption) (by rfl) (W.mk ?_); (conv => whnf)) | (refine RdP.sub (by assumption) (by rfl) (W.mk ?_); (conv => whnf)) | (refine RdP.sub2 (by assumption) (by rfl) (W.mk ?_); (conv => whnf)) | (refine RdP.sub3 (by assumption) (by rfl) (W.mk ?_); (conv => whnf))))
          refine RoundP.of (k + 1, max yy o.u) (HeadP.of [] ⟨rfl, rfl, rfl, rfl, rfl, rfl, trivial⟩ ⟨rfl, rfl, rfl, rfl, trivial⟩) ⟨by show k + 1 ≤ on; omega, by rw [hst, hyr]⟩ (by simp only; omega)
        · have hke : k = r.orders.length := by omega
          rw [hke, List.take_length] at hyy
          repeat' (first | (refine OblP.mk (by simp only [inR]; omega) (W.mk ?_); (conv => whnf)) | (refine OblP.mk ⟨by omega, by omega⟩ (W.mk ?_); (conv => whnf)) | (refine OblP.mk rfl (W.mk ?_); (conv => whnf)) | (first | (refine RdP.at (by assumption) (by rfl) (W.mk ?_); (conv => whnf)) | (refine RdP.sub (by assumption) (by rfl) (W.mk ?_); (conv => whnf)) | (refine RdP.sub2 (by assumption) (by rfl) (W.mk ?_); (conv => whnf)) | (refine RdP.sub3 (by assumption) (by rfl) (W.mk ?_); (conv => whnf))))
          refine OblP.mk (by show _ ≤ List.length ((vs ++ [I i, I 0, I 0])); rw [hvl, hoff]; omega) (W.mk ?_)
          refine den_setR_eq (set3a (vs := (vs ++ [I i, I 0, I 0])) hvs hoff) ?_
          (conv => whnf)
          repeat' (first | (refine OblP.mk ?_ (W.mk ?_); (first | trivial | omega | (simp only [inR]; omega) | exact Nat.le_of_ble_eq_true (by rfl) | exact SlR.some (by assumption) (by omega)); (conv => whnf)) | (first | (refine RdP.at (by assumption) (by rfl) (W.mk ?_); (conv => whnf)) | (refine RdP.sub (by assumption) (by rfl) (W.mk ?_); (conv => whnf)) | (refine RdP.sub2 (by assumption) (by rfl) (W.mk ?_); (conv => whnf)) | (refine RdP.sub3 (by assumption) (by rfl) (W.mk ?_); (conv => whnf))))
          refine RoundP.of (i + 1, (n + 1), pre ++ [I sf, I ((i : Int) + 1), I yy]) (HeadP.of [(4, some 29)] ⟨rfl, rfl, rfl, rfl, trivial⟩ ⟨rfl, rfl, rfl, trivial⟩) ⟨by show i + 1 ≤ wn; omega, ?_⟩ (by simp only; omega)
          rw [hcl, ← hyy]
          exact hIn ⟨sf, (i : Int) + 1, yy⟩
end Go.Proofs.Ytpcpjmplgladmaa

namespace Go.Proofs.Ytpcpjmplgladmaa
open Go.Pal Go.RowKit
set_option maxRecDepth 100000
theorem fold_addC (c : Int) (h : Int) : ∀ (hs : List Int) (F : Cols), (hs.foldl (addC c) F) h = if hs.contains h && !(F h).contains c then F h ++ [c] else F h
  | [], F => by simp
  | q :: t, F => by
    rw [List.foldl_cons, fold_addC c h t, List.contains_cons]
    by_cases e : h = q
    · subst e
      rw [beq_self_eq_true, Bool.true_or, Bool.true_and]
      cases hc : (F h).contains c with
      | true =>
        have : addC c F h h = F h := by simp only [addC, hc, if_true]
        rw [this, hc]; simp
      | false =>
        have : addC c F h h = F h ++ [c] := by rw [addC, hc, if_neg (by simp)]; exact if_pos rfl
        rw [this]; simp
    · have e1 : (h == q) = false := by simpa using e
      have : addC c F q h = F h := by
        unfold addC
        split
        · rfl
        · exact if_neg e
      rw [this, e1, Bool.false_or]
/-- The columns of a head, of the pieces below one. -/
def rcK (g : Rg) (h : Int) (n : Nat) : List Int := ((pcF g).take n).foldl (stepC g) (fun _ => []) h
theorem rcK_succ {g : Rg} {h : Int} {n : Nat} {e : Int × Pc} (he : (pcF g)[n]? = some e) : rcK g h (n + 1) = if e.1 = -1 then rcK g h n else if (g.r.words.getD e.1.toNat ⟨noText, []⟩).heads.contains h && !(rcK g h n).contains e.2.col then rcK g h n ++ [e.2.col] else rcK g h n := by
  rw [rcK, take_snoc he, List.foldl_append]
  show stepC g _ e h = _
  unfold stepC
  split
  · rfl
  · exact fold_addC _ _ _ _
theorem rcK_len (g : Rg) (h : Int) : ∀ n, (rcK g h n).length ≤ n
  | 0 => by simp [rcK]
  | n + 1 => by
    have ih := rcK_len g h n
    cases he : (pcF g)[n]? with
    | none =>
      have : (pcF g).take (n + 1) = (pcF g).take n := by
        have := List.getElem?_eq_none_iff.1 he
        rw [List.take_of_length_le (by omega), List.take_of_length_le (by omega)]
      rw [rcK, this]; exact Nat.le_succ_of_le ih
    | some e =>
      rw [rcK_succ he]
      split
      · omega
      · split
        · simp; omega
        · omega
/-- The entries of the heads below one. -/
def enK (g : Rg) (h : Nat) : List En := ((List.range h).filter fun n : Nat => !(colsF g (n : Int)).isEmpty).map fun n : Nat => ⟨(n : Int), colsF g (n : Int)⟩
theorem enK_succ (g : Rg) (h : Nat) : enK g (h + 1) = if (colsF g h).isEmpty then enK g h else enK g h ++ [⟨h, colsF g h⟩] := by
  rw [enK, List.range_succ, List.filter_append]
  by_cases e : (colsF g h).isEmpty = true
  · simp [enK, e]
  · simp [enK, e]
theorem enK_index (r : Rp) (x : Rx) : enK (rgOf r x) 100 = indexF r x := by
  rw [indexF, hdsF, List.filter_map, List.map_map]; rfl
theorem enK_len (g : Rg) : ∀ h, (enK g h).length ≤ h
  | 0 => by simp [enK]
  | h + 1 => by
    have := enK_len g h
    rw [enK_succ]
    split
    · omega
    · simp; omega
def colsH (hd : Nat) : Nat → List Value → List (Nat × OB)
  | 0, _ => [(13, .cells .anon [.val (I hd), .val (.slice none 0 0)] 46)]
  | k + 1, us => [(13, .cells .anon [.val (I hd), .row 5 (k + 1)] 46), (5, .row none (k + 1) us 3 1)]
theorem row_mapI {l : List Int} {n : Nat} {vs : List Value} (h : Row intE l n vs) : vs = l.map I := by rw [h.vs, mapI_flat]
theorem index19 : Sound Try.prog 19 id (grel (args2 rpRd rxRd fun r _ => Fine r) fun p v G => EnsV G v (indexF p.1 p.2)) := by
  refine comp19.grel tabRf (ok2 _ _ _) (fun args G s h => ?_) (fun x v G G' hg h => h.grow hg) (fun args G p h => ?_)
  · obtain ⟨v, w, rfl, _⟩ := h; simp
  · obtain ⟨r, x⟩ := p
    obtain ⟨u, v, rfl, hr, hx, hf⟩ := h
    dsimp only at hr hx hf
    obtain ⟨rw_, ro, rfl, hrc⟩ := id hr
    obtain ⟨m, rfl, hm⟩ := id hx
    obtain ⟨oa, on, oc, rfl, ho1, ho2⟩ := id hrc.o
    obtain ⟨wa, wn, wc, rfl, hw1, hw2⟩ := id hrc.w
    obtain ⟨ma, mn, mc, rfl, hm1, hm2⟩ := id hm
    have hwn := hw1.len
    have hcl := hf.c
    have hwl := hf.wl
    have hplen : (pcF (rgOf r x)).length ≤ r.words.length := pcF_len (rgOf r x)
    dsimp only
    (conv => whnf)
    refine RelP.g (ok2 rpRd rxRd fun r _ => RpOk r) (x := (r, x)) ⟨_, _, rfl, hr, hx, fine_ok hf⟩ (Grow.refl _) (fun v G1 hg1 hq => W.mk ?_)
    dsimp only at hq
    rw [← pcF_sh] at hq
    obtain ⟨sa, sn, sc, rfl, hs1, hs2⟩ := hq
    have hsn := hs1.len
    rw [List.length_map] at hsn
    (conv => whnf)
    refine LoopP.of { α := Nat × Nat × List REn × List Value, fr := fun y => [(2, .c (.ptr 0 0)), (5, .c (.row 4 y.2.1)), (6, .v (.slice sa sn sc)), (7, .v (I y.1))], H := fun y => [(0, .cells .anon [.val (.slice wa wn wc), .val (.slice oa on oc), .val (I r.cols)] 25), (4, .row none y.2.1 y.2.2.2 46 2)], ok := fun y G => y.1 ≤ 100 ∧ Row enE y.2.2.1 y.2.1 y.2.2.2 ∧ y.2.2.1.length = (enK (rgOf r x) y.1).length ∧ ∀ i (h : i < y.2.2.1.length) (h2 : i < (enK (rgOf r x) y.1).length), EnR G (enE.f y.2.2.1[i]) (enK (rgOf r x) y.1)[i], m := fun y => 100 - y.1 }
      (0, 0, [], []) (HeadP.of [(4, none)] ⟨rfl, rfl, rfl, rfl, trivial⟩ ⟨rfl, rfl, trivial⟩) ⟨Nat.zero_le _, Row.nil, rfl, fun i h => by simp at h⟩ (fun _ => ⟨rfl, rfl⟩) (fun y G2 hg2 hx2 => W.mk ?_)
    obtain ⟨hd, n, L, vs⟩ := y
    obtain ⟨hhd, hrow, hlen, hrd⟩ := hx2
    dsimp only at hhd hrow hlen hrd
    have hLn := hrow.n
    have henl := enK_len (rgOf r x) hd
    dsimp only
    (conv => whnf)
    refine IteP.mk (fun hlt => W.mk ?_) (fun hge => W.mk ?_) <;> (conv => whnf)
    rotate_left
    · have hie : hd = 100 := by omega
      subst hie
      refine PubP.mk (fun a1 c1 G3 hg3 hp => W.mk ?_)
      (conv => whnf)
      refine FinP.mk ?_
      obtain ⟨_, _, _, q1, q2, q3⟩ := hrow.pub hp (by omega)
      cases q1
      rw [← enK_index]
      refine ⟨_, _, _, rfl, SlR.mapEn q2 hlen.symm fun i j1 j2 => (hrd i j1 j2).grow hg3, q3⟩
    have hlt100 : hd < 100 := by omega
    refine LoopP.of { α := Nat × Nat × List Value, fr := fun y => [(2, .c (.ptr 0 0)), (5, .c (.row 4 n)), (6, .v (.slice sa sn sc)), (7, .v (I hd)), (8, .c (.ptr 13 0)), (9, .v (I y.1))], H := fun y => [(0, .cells .anon [.val (.slice wa wn wc), .val (.slice oa on oc), .val (I r.cols)] 25), (4, .row none n vs 46 2)] ++ colsH hd y.2.1 y.2.2, ok := fun y _ => y.1 ≤ sn ∧ Row intE (rcK (rgOf r x) hd y.1) y.2.1 y.2.2, m := fun y => sn - y.1 }
      (0, 0, []) (HeadP.of [] ⟨rfl, rfl, rfl, rfl, rfl, rfl, trivial⟩ ⟨rfl, rfl, rfl, trivial⟩) ⟨Nat.zero_le _, Row.nil⟩ (fun y => ⟨rfl, (by obtain ⟨_, k, _⟩ := y; cases k <;> rfl)⟩) (fun y G3 hg3 hx3 => W.mk ?_)
    obtain ⟨i, k, us⟩ := y
    obtain ⟨hi, hrow2⟩ := hx3
    dsimp only at hi hrow2
    have hkn := hrow2.n
    have hrl := rcK_len (rgOf r x) hd i
    cases k with
    | zero =>
      dsimp only [colsH, List.cons_append, List.nil_append]
      (conv => whnf)
      refine IteP.mk (fun hlt => W.mk ?_) (fun hge => W.mk ?_) <;> (conv => whnf)
      · have hlt : i < (pcF (rgOf r x)).length := by omega
        have hcol : inR .i64 ((i : Int) / r.cols) ∧ inR .i64 ((i : Int) / r.cols + 1) := by
          have h1 := Int.ediv_nonneg (show (0 : Int) ≤ i by omega) (show 0 ≤ r.cols by omega)
          have h2 : (i : Int) / r.cols ≤ i := Int.ediv_le_self _ (by omega)
          simp only [inR]; omega
        have hc := (SlR.grow (G := G1) (G' := G3) (fun _ _ h => h) hs1 (hg2.trans hg3)).el (i := i) (by simpa using hlt)
        rw [List.getElem_map] at hc
        obtain ⟨k1, _⟩ := pcK_at (rgOf r x) _ i _ (List.getElem?_eq_getElem hlt)
        have hsc := rcK_succ (g := rgOf r x) (h := (hd : Int)) (List.getElem?_eq_getElem hlt)
        have hmem := pcK_mem (rgOf r x) _ _ (List.getElem_mem hlt)
        have k1 : (pcF (rgOf r x))[i].2.col = (i : Int) / r.cols + 1 := k1
        have hmem : (pcF (rgOf r x))[i].1 = -1 ∨ ∃ j : Nat, j < r.words.length ∧ (pcF (rgOf r x))[i].1 = j := hmem
        generalize (pcF (rgOf r x))[i] = e at hc k1 hsc hmem
        obtain ⟨sh, tx, cl⟩ := e
        dsimp only at hc k1 hmem hsc
        subst k1
        repeat' (first | (refine OblP.mk hcol.2 (W.mk ?_); (conv => whnf)) | (refine OblP.mk ⟨by omega, by omega, by simp only [inR]; omega⟩ (W.mk ?_); (conv => whnf)) | (refine OblP.mk ?_ (W.mk ?_); (first | trivial | omega | (simp only [inR]; omega) | exact Nat.le_of_ble_eq_true (by rfl) | exact SlR.some (by assumption) (by omega)); (conv => whnf)) | (first | (refine RdP.at (by assumption) (by rfl) (W.mk ?_); (conv => whnf)) | (refine RdP.sub (by assumption) (by rfl) (W.mk ?_); (conv => whnf)) | (refine RdP.sub2 (by assumption) (by rfl) (W.mk ?_); (conv => whnf)) | (refine RdP.sub3 (by assumption) (by rfl) (W.mk ?_); (conv => whnf))))
        rcases hmem with rfl | ⟨j, hj, rfl⟩
        · rw [if_pos rfl] at hsc
          refine IteP.mk (fun h5 => by exfalso; omega) (fun _ => W.mk ?_)
          (conv => whnf)
          repeat' (first | (refine OblP.mk ?_ (W.mk ?_); (first | trivial | omega | (simp only [inR]; omega) | exact Nat.le_of_ble_eq_true (by rfl) | exact SlR.some (by assumption) (by omega)); (conv => whnf)) | (first | (refine RdP.at (by assumption) (by rfl) (W.mk ?_); (conv => whnf)) | (refine RdP.sub (by assumption) (by rfl) (W.mk ?_); (conv => whnf)) | (refine RdP.sub2 (by assumption) (by rfl) (W.mk ?_); (conv => whnf)) | (refine RdP.sub3 (by assumption) (by rfl) (W.mk ?_); (conv => whnf))))
          exact RoundP.of (i + 1, 0, us) (HeadP.of [] ⟨rfl, rfl, rfl, rfl, rfl, rfl, trivial⟩ ⟨rfl, rfl, rfl, trivial⟩) ⟨by show i + 1 ≤ sn; omega, by dsimp only; rw [hsc]; exact hrow2⟩ (by simp only; omega)
        · rw [if_neg (by omega)] at hsc
          have hgd : (rgOf r x).r.words.getD ((j : Nat) : Int).toNat ⟨noText, []⟩ = r.words[j] := by simp [rgOf, hj]
          rw [hgd] at hsc
          obtain ⟨cs, _, hcw, hv, rfl, ha, hn, hcc, rfl, hh⟩ := SlR.cells (SlR.grow (fun _ _ h => h.grow ((hg1.trans hg2).trans hg3)) hw1 ((hg1.trans hg2).trans hg3)) hj
          generalize r.words[j] = wd at hcw hh hsc
          refine IteP.mk (fun _ => W.mk ?_) (fun h5 => by exfalso; omega)
          (conv => whnf)
          repeat' (first | (refine OblP.mk ?_ (W.mk ?_); (first | trivial | omega | (simp only [inR]; omega) | exact Nat.le_of_ble_eq_true (by rfl) | exact SlR.some (by assumption) (by omega)); (conv => whnf)) | (first | (refine RdP.at (by assumption) (by rfl) (W.mk ?_); (conv => whnf)) | (refine RdP.sub (by assumption) (by rfl) (W.mk ?_); (conv => whnf)) | (refine RdP.sub2 (by assumption) (by rfl) (W.mk ?_); (conv => whnf)) | (refine RdP.sub3 (by assumption) (by rfl) (W.mk ?_); (conv => whnf))))
          refine ScaP.g (ok2 (slRd intE) intRd fun _ _ => True) (x := (wd.heads, (hd : Int))) ⟨_, _, rfl, ⟨_, _, _, rfl, hh⟩, rfl, trivial⟩ (fun v hv => W.mk ?_)
          subst hv
          dsimp only
          (conv => whnf)
          refine ForkP.mk (fun hq => W.mk ?_) (fun hq => W.mk ?_) <;> (conv => whnf)
          rotate_left
          · rw [hq, Bool.false_and, if_neg (by simp)] at hsc
            repeat' (first | (refine OblP.mk ?_ (W.mk ?_); (first | trivial | omega | (simp only [inR]; omega) | exact Nat.le_of_ble_eq_true (by rfl) | exact SlR.some (by assumption) (by omega)); (conv => whnf)) | (first | (refine RdP.at (by assumption) (by rfl) (W.mk ?_); (conv => whnf)) | (refine RdP.sub (by assumption) (by rfl) (W.mk ?_); (conv => whnf)) | (refine RdP.sub2 (by assumption) (by rfl) (W.mk ?_); (conv => whnf)) | (refine RdP.sub3 (by assumption) (by rfl) (W.mk ?_); (conv => whnf))))
            exact RoundP.of (i + 1, 0, us) (HeadP.of [] ⟨rfl, rfl, rfl, rfl, rfl, rfl, trivial⟩ ⟨rfl, rfl, rfl, trivial⟩) ⟨by show i + 1 ≤ sn; omega, by dsimp only; rw [hsc]; exact hrow2⟩ (by simp only; omega)
          have h0 : rcK (rgOf r x) hd i = [] := List.eq_nil_of_length_eq_zero hkn.symm
          rw [hq, h0] at hsc
          refine ScaP.g (ok2 (slRd intE) intRd fun _ _ => True) (x := (([] : List Int), (i : Int) / r.cols + 1)) ⟨_, _, rfl, SlV.nil, rfl, trivial⟩ (fun v hv => W.mk ?_)
          subst hv
          dsimp only
          (conv => whnf)
          refine ForkP.mk (fun h => by simp at h) (fun _ => W.mk ?_)
          (conv => whnf)
          repeat' (first | (refine OblP.mk rfl (W.mk ?_); (conv => whnf)) | (refine OblP.mk ?_ (W.mk ?_); (first | trivial | omega | (simp only [inR]; omega) | exact Nat.le_of_ble_eq_true (by rfl) | exact SlR.some (by assumption) (by omega)); (conv => whnf)) | (first | (refine RdP.at (by assumption) (by rfl) (W.mk ?_); (conv => whnf)) | (refine RdP.sub (by assumption) (by rfl) (W.mk ?_); (conv => whnf)) | (refine RdP.sub2 (by assumption) (by rfl) (W.mk ?_); (conv => whnf)) | (refine RdP.sub3 (by assumption) (by rfl) (W.mk ?_); (conv => whnf))))
          refine RoundP.of (i + 1, 1, [I ((i : Int) / r.cols + 1)]) (HeadP.of [(5, some 55)] ⟨rfl, rfl, rfl, rfl, rfl, rfl, trivial⟩ ⟨rfl, rfl, rfl, rfl, trivial⟩) ⟨by show i + 1 ≤ sn; omega, ?_⟩ (by simp only; omega)
          dsimp only
          rw [hsc]
          exact Row.nil.snoc _
      · have hie : i = (pcF (rgOf r x)).length := by omega
        have hfin : rcK (rgOf r x) hd i = colsF (rgOf r x) hd := by rw [hie, rcK, List.take_length]; rfl
        have h0 : colsF (rgOf r x) hd = [] := by rw [← hfin]; exact List.eq_nil_of_length_eq_zero hkn.symm
        have hsu := enK_succ (rgOf r x) hd
        rw [h0] at hsu
        have hsu : enK (rgOf r x) (hd + 1) = enK (rgOf r x) hd := hsu
        refine IteP.mk (fun h => by exfalso; omega) (fun _ => W.mk ?_)
        (conv => whnf)
        repeat' (first | (refine OblP.mk ?_ (W.mk ?_); (first | trivial | omega | (simp only [inR]; omega) | exact Nat.le_of_ble_eq_true (by rfl) | exact SlR.some (by assumption) (by omega)); (conv => whnf)) | (first | (refine RdP.at (by assumption) (by rfl) (W.mk ?_); (conv => whnf)) | (refine RdP.sub (by assumption) (by rfl) (W.mk ?_); (conv => whnf)) | (refine RdP.sub2 (by assumption) (by rfl) (W.mk ?_); (conv => whnf)) | (refine RdP.sub3 (by assumption) (by rfl) (W.mk ?_); (conv => whnf))))
        refine RoundP.of (hd + 1, n, L, vs) (HeadP.of [] ⟨rfl, rfl, rfl, rfl, trivial⟩ ⟨rfl, rfl, trivial⟩) ⟨by show hd + 1 ≤ 100; omega, hrow, by rw [hlen, hsu], fun i j1 j2 => ?_⟩ (by simp only; omega)
        dsimp only at j1 j2 ⊢
        have := (hrd i j1 (by rw [← hsu]; exact j2)).grow hg3
        simpa only [hsu] using this
    | succ k =>
      have hus := row_mapI hrow2
      dsimp only [colsH, List.cons_append, List.nil_append]
      (conv => whnf)
      refine IteP.mk (fun hlt => W.mk ?_) (fun hge => W.mk ?_) <;> (conv => whnf)
      · have hlt : i < (pcF (rgOf r x)).length := by omega
        have hcol : inR .i64 ((i : Int) / r.cols) ∧ inR .i64 ((i : Int) / r.cols + 1) := by
          have h1 := Int.ediv_nonneg (show (0 : Int) ≤ i by omega) (show 0 ≤ r.cols by omega)
          have h2 : (i : Int) / r.cols ≤ i := Int.ediv_le_self _ (by omega)
          simp only [inR]; omega
        have hc := (SlR.grow (G := G1) (G' := G3) (fun _ _ h => h) hs1 (hg2.trans hg3)).el (i := i) (by simpa using hlt)
        rw [List.getElem_map] at hc
        obtain ⟨k1, _⟩ := pcK_at (rgOf r x) _ i _ (List.getElem?_eq_getElem hlt)
        have hsc := rcK_succ (g := rgOf r x) (h := (hd : Int)) (List.getElem?_eq_getElem hlt)
        have hmem := pcK_mem (rgOf r x) _ _ (List.getElem_mem hlt)
        have k1 : (pcF (rgOf r x))[i].2.col = (i : Int) / r.cols + 1 := k1
        have hmem : (pcF (rgOf r x))[i].1 = -1 ∨ ∃ j : Nat, j < r.words.length ∧ (pcF (rgOf r x))[i].1 = j := hmem
        generalize (pcF (rgOf r x))[i] = e at hc k1 hsc hmem
        obtain ⟨sh, tx, cl⟩ := e
        dsimp only at hc k1 hmem hsc
        subst k1
        repeat' (first | (refine OblP.mk hcol.2 (W.mk ?_); (conv => whnf)) | (refine OblP.mk ⟨by omega, by omega, by simp only [inR]; omega⟩ (W.mk ?_); (conv => whnf)) | (refine OblP.mk ?_ (W.mk ?_); (first | trivial | omega | (simp only [inR]; omega) | exact Nat.le_of_ble_eq_true (by rfl) | exact SlR.some (by assumption) (by omega)); (conv => whnf)) | (first | (refine RdP.at (by assumption) (by rfl) (W.mk ?_); (conv => whnf)) | (refine RdP.sub (by assumption) (by rfl) (W.mk ?_); (conv => whnf)) | (refine RdP.sub2 (by assumption) (by rfl) (W.mk ?_); (conv => whnf)) | (refine RdP.sub3 (by assumption) (by rfl) (W.mk ?_); (conv => whnf))))
        refine PubP.opn (Nat.succ_ne_zero k) (fun b cap rest g1 g2 g3 => W.mk ?_)
        (conv => whnf)
        repeat' (first | (refine OblP.mk hcol.2 (W.mk ?_); (conv => whnf)) | (refine OblP.mk ⟨by omega, by omega, by simp only [inR]; omega⟩ (W.mk ?_); (conv => whnf)) | (refine OblP.mk ?_ (W.mk ?_); (first | trivial | omega | (simp only [inR]; omega) | exact Nat.le_of_ble_eq_true (by rfl) | exact SlR.some (by assumption) (by omega)); (conv => whnf)) | (first | (refine RdP.at (by assumption) (by rfl) (W.mk ?_); (conv => whnf)) | (refine RdP.sub (by assumption) (by rfl) (W.mk ?_); (conv => whnf)) | (refine RdP.sub2 (by assumption) (by rfl) (W.mk ?_); (conv => whnf)) | (refine RdP.sub3 (by assumption) (by rfl) (W.mk ?_); (conv => whnf))))
        rcases hmem with rfl | ⟨j, hj, rfl⟩
        · rw [if_pos rfl] at hsc
          refine IteP.mk (fun h5 => by exfalso; omega) (fun _ => W.mk ?_)
          (conv => whnf)
          repeat' (first | (refine OblP.mk ?_ (W.mk ?_); (first | trivial | omega | (simp only [inR]; omega) | exact Nat.le_of_ble_eq_true (by rfl) | exact SlR.some (by assumption) (by omega)); (conv => whnf)) | (first | (refine RdP.at (by assumption) (by rfl) (W.mk ?_); (conv => whnf)) | (refine RdP.sub (by assumption) (by rfl) (W.mk ?_); (conv => whnf)) | (refine RdP.sub2 (by assumption) (by rfl) (W.mk ?_); (conv => whnf)) | (refine RdP.sub3 (by assumption) (by rfl) (W.mk ?_); (conv => whnf))))
          exact RoundP.of (i + 1, k + 1, us) (HeadP.of [] ⟨rfl, rfl, rfl, rfl, rfl, rfl, trivial⟩ ⟨rfl, rfl, rfl, rfl, trivial⟩) ⟨by show i + 1 ≤ sn; omega, by dsimp only; rw [hsc]; exact hrow2⟩ (by simp only; omega)
        · rw [if_neg (by omega)] at hsc
          have hgd : (rgOf r x).r.words.getD ((j : Nat) : Int).toNat ⟨noText, []⟩ = r.words[j] := by simp [rgOf, hj]
          rw [hgd] at hsc
          obtain ⟨cs, _, hcw, hv, rfl, ha, hn, hcc, rfl, hh⟩ := SlR.cells (SlR.grow (fun _ _ h => h.grow ((hg1.trans hg2).trans hg3)) hw1 ((hg1.trans hg2).trans hg3)) hj
          generalize r.words[j] = wd at hcw hh hsc
          refine IteP.mk (fun _ => W.mk ?_) (fun h5 => by exfalso; omega)
          (conv => whnf)
          repeat' (first | (refine OblP.mk ?_ (W.mk ?_); (first | trivial | omega | (simp only [inR]; omega) | exact Nat.le_of_ble_eq_true (by rfl) | exact SlR.some (by assumption) (by omega)); (conv => whnf)) | (first | (refine RdP.at (by assumption) (by rfl) (W.mk ?_); (conv => whnf)) | (refine RdP.sub (by assumption) (by rfl) (W.mk ?_); (conv => whnf)) | (refine RdP.sub2 (by assumption) (by rfl) (W.mk ?_); (conv => whnf)) | (refine RdP.sub3 (by assumption) (by rfl) (W.mk ?_); (conv => whnf))))
          refine ScaP.g (ok2 (slRd intE) intRd fun _ _ => True) (x := (wd.heads, (hd : Int))) ⟨_, _, rfl, ⟨_, _, _, rfl, hh⟩, rfl, trivial⟩ (fun v hv => W.mk ?_)
          subst hv
          dsimp only
          (conv => whnf)
          refine ForkP.mk (fun hq => W.mk ?_) (fun hq => W.mk ?_) <;> (conv => whnf)
          rotate_left
          · rw [hq, Bool.false_and, if_neg (by simp)] at hsc
            repeat' (first | (refine OblP.mk ?_ (W.mk ?_); (first | trivial | omega | (simp only [inR]; omega) | exact Nat.le_of_ble_eq_true (by rfl) | exact SlR.some (by assumption) (by omega)); (conv => whnf)) | (first | (refine RdP.at (by assumption) (by rfl) (W.mk ?_); (conv => whnf)) | (refine RdP.sub (by assumption) (by rfl) (W.mk ?_); (conv => whnf)) | (refine RdP.sub2 (by assumption) (by rfl) (W.mk ?_); (conv => whnf)) | (refine RdP.sub3 (by assumption) (by rfl) (W.mk ?_); (conv => whnf))))
            exact RoundP.of (i + 1, k + 1, us) (HeadP.of [] ⟨rfl, rfl, rfl, rfl, rfl, rfl, trivial⟩ ⟨rfl, rfl, rfl, rfl, trivial⟩) ⟨by show i + 1 ≤ sn; omega, by dsimp only; rw [hsc]; exact hrow2⟩ (by simp only; omega)
          rw [hq, Bool.true_and] at hsc
          have hS : ∀ Gx : Hp, Gx b = some (.cells (us ++ rest).toArray 3 (0, 0)) → SlV intE Gx (.slice (some ⟨b, 0, none⟩) (k + 1) cap) (rcK (rgOf r x) hd i) := fun Gx hb => by
            rw [hus] at hb
            exact objs_rowI hb hkn.symm g1 (by omega)
          refine ScaP.mk (fun Gx hgx hob => ⟨(rcK (rgOf r x) hd i, (i : Int) / r.cols + 1), _, _, rfl, hS Gx (hob (b, .cells (us ++ rest).toArray 3 (0, 0)) (List.Mem.head _)), rfl, trivial⟩) (fun v hv => W.mk ?_)
          obtain ⟨Gx, hgx, hob, y, hy, rfl⟩ := hv
          have : y = (rcK (rgOf r x) hd i, (i : Int) / r.cols + 1) := (ok2 (slRd intE) intRd fun _ _ => True).uniq _ _ _ _ hy ⟨_, _, rfl, hS Gx (hob (b, .cells (us ++ rest).toArray 3 (0, 0)) (List.Mem.head _)), rfl, trivial⟩
          subst this
          dsimp only
          (conv => whnf)
          refine ForkP.mk (fun hq2 => W.mk ?_) (fun hq2 => W.mk ?_) <;> (conv => whnf)
          · rw [hq2, Bool.not_true, if_neg (by simp)] at hsc
            repeat' (first | (refine OblP.mk ?_ (W.mk ?_); (first | trivial | omega | (simp only [inR]; omega) | exact Nat.le_of_ble_eq_true (by rfl) | exact SlR.some (by assumption) (by omega)); (conv => whnf)) | (first | (refine RdP.at (by assumption) (by rfl) (W.mk ?_); (conv => whnf)) | (refine RdP.sub (by assumption) (by rfl) (W.mk ?_); (conv => whnf)) | (refine RdP.sub2 (by assumption) (by rfl) (W.mk ?_); (conv => whnf)) | (refine RdP.sub3 (by assumption) (by rfl) (W.mk ?_); (conv => whnf))))
            exact RoundP.of (i + 1, k + 1, us) (HeadP.of [] ⟨rfl, rfl, rfl, rfl, rfl, rfl, trivial⟩ ⟨rfl, rfl, rfl, rfl, trivial⟩) ⟨by show i + 1 ≤ sn; omega, by dsimp only; rw [hsc]; exact hrow2⟩ (by simp only; omega)
          · rw [hq2, Bool.not_false, if_pos rfl] at hsc
            refine ForgP.drop (W.mk ?_)
            (conv => whnf)
            repeat' (first | (refine OblP.mk rfl (W.mk ?_); (conv => whnf)) | (refine OblP.mk ?_ (W.mk ?_); (first | trivial | omega | (simp only [inR]; omega) | exact Nat.le_of_ble_eq_true (by rfl) | exact SlR.some (by assumption) (by omega)); (conv => whnf)) | (first | (refine RdP.at (by assumption) (by rfl) (W.mk ?_); (conv => whnf)) | (refine RdP.sub (by assumption) (by rfl) (W.mk ?_); (conv => whnf)) | (refine RdP.sub2 (by assumption) (by rfl) (W.mk ?_); (conv => whnf)) | (refine RdP.sub3 (by assumption) (by rfl) (W.mk ?_); (conv => whnf))))
            refine RoundP.of (i + 1, k + 2, us ++ [I ((i : Int) / r.cols + 1)]) (HeadP.of [(5, some 55)] ⟨rfl, rfl, rfl, rfl, rfl, rfl, trivial⟩ ⟨rfl, rfl, rfl, rfl, trivial⟩) ⟨by show i + 1 ≤ sn; omega, ?_⟩ (by simp only; omega)
            dsimp only
            rw [hsc]
            exact hrow2.snoc _
      · have hie : i = (pcF (rgOf r x)).length := by omega
        have hfin : rcK (rgOf r x) hd i = colsF (rgOf r x) hd := by rw [hie, rcK, List.take_length]; rfl
        rw [hfin] at hrow2 hkn hrl
        have hne : (colsF (rgOf r x) hd).isEmpty = false := by
          cases hc : colsF (rgOf r x) hd with
          | nil => rw [hc] at hkn; simp at hkn
          | cons _ _ => rfl
        have hsu : enK (rgOf r x) (hd + 1) = enK (rgOf r x) hd ++ [⟨hd, colsF (rgOf r x) hd⟩] := by rw [enK_succ, hne, if_neg (by simp)]
        refine IteP.mk (fun _ => W.mk ?_) (fun h => by exfalso; omega)
        (conv => whnf)
        refine PubP.mk (fun a1 c1 G4 hg4 hp => W.mk ?_)
        (conv => whnf)
        have hcv : SlV intE G4 (.slice a1 (k + 1) c1) (colsF (rgOf r x) hd) := hrow2.pub hp (by omega)
        repeat' (first | (refine OblP.mk rfl (W.mk ?_); (conv => whnf)) | (refine OblP.mk ?_ (W.mk ?_); (first | trivial | omega | (simp only [inR]; omega) | exact Nat.le_of_ble_eq_true (by rfl) | exact SlR.some (by assumption) (by omega)); (conv => whnf)) | (first | (refine RdP.at (by assumption) (by rfl) (W.mk ?_); (conv => whnf)) | (refine RdP.sub (by assumption) (by rfl) (W.mk ?_); (conv => whnf)) | (refine RdP.sub2 (by assumption) (by rfl) (W.mk ?_); (conv => whnf)) | (refine RdP.sub3 (by assumption) (by rfl) (W.mk ?_); (conv => whnf))))
        refine RoundP.of (hd + 1, n + 1, L ++ [((hd : Int), a1, k + 1, c1)], vs ++ [I hd, Value.slice a1 (k + 1) c1]) (HeadP.of [(4, some 68)] ⟨rfl, rfl, rfl, rfl, trivial⟩ ⟨rfl, rfl, trivial⟩) ⟨by show hd + 1 ≤ 100; omega, hrow.snoc ((hd : Int), a1, k + 1, c1), by simp [hlen, hsu], fun i j1 j2 => ?_⟩ (by simp only; omega)
        dsimp only at j1 j2 ⊢
        have key : ∀ (M : List En) (hM : enK (rgOf r x) (hd + 1) = M) (j2 : i < M.length), EnR G4 (enE.f (L ++ [((hd : Int), a1, k + 1, c1)])[i]) M[i] := fun M hM => by
          rw [hsu] at hM
          subst hM
          intro j2
          by_cases h : i < L.length
          · rw [List.getElem_append_left h, List.getElem_append_left (by omega)]
            exact (hrd i h (by omega)).grow (hg3.trans hg4)
          · have h2 : i = L.length := by simp at j1; omega
            subst h2
            rw [List.getElem_append_right (Nat.le_refl _), List.getElem_append_right (by omega)]
            simp only [hlen, Nat.sub_self, List.getElem_singleton]
            exact ⟨_, rfl, hcv⟩
        exact key _ rfl j2
end Go.Proofs.Ytpcpjmplgladmaa

namespace Go.Proofs.Ytpcpjmplgladmaa
open Go.Pal Go.ChangeShapes
theorem SlR.map {α β : Type} {k : Nat} {R : Hp → List Value → α → Prop} {R' : Hp → List Value → β → Prop} {G : Hp} {a : Option Addr} {n c : Nat} {l : List α} (f : α → β) (hf : ∀ cs x, R G cs x → R' G cs (f x)) (h : SlR k R G a n c l) : SlR k R' G a n c (l.map f) :=
  ⟨by rw [List.length_map, h.len], h.cap, h.some, fun i hi => by
    obtain ⟨cs, h1, h2, h3⟩ := h.at_ i (by simpa using hi)
    exact ⟨cs, h1, h2, by rw [List.getElem_map]; exact hf _ _ h3⟩⟩
theorem udl5 : Try.prog.underlying 5 = some (.int .u8) := by kernel_rfl
theorem udl57 : Try.prog.underlying 57 = some (.int .u16) := by kernel_rfl
theorem o3 : Opens Try.prog 3 (cdInt .i64) := .int und3
theorem o5 : Opens Try.prog 5 (cdInt .u8) := .int udl5
theorem o57 : Opens Try.prog 57 (cdInt .u16) := .int udl57
theorem o9 : Opens Try.prog 9 cdStr := .str und9
theorem o26 : Opens Try.prog 26 (cdSl (cdInt .i64)) := .slice (e := 3) (by kernel_rfl) o3 (by decide)
abbrev cdWd := cdPair cdStr (cdPair (cdSl (cdInt .i64)) cdUnit)
theorem o82 : Opens Try.prog 82 cdWd := .struct (fs := [(9, 0), (26, 1)]) (by kernel_rfl) (by kernel_rfl) (OpensF.cons o9 (OpensF.cons o26 OpensF.nil))
abbrev cdOd := cdPair (cdInt .i64) (cdPair (cdInt .i64) (cdPair (cdInt .i64) (cdPair (cdInt .i64) cdUnit)))
theorem o90 : Opens Try.prog 90 cdOd := .struct (fs := [(3, 0), (3, 1), (3, 2), (3, 3)]) (by kernel_rfl) (by kernel_rfl) (OpensF.cons o3 (OpensF.cons o3 (OpensF.cons o3 (OpensF.cons o3 OpensF.nil))))
theorem o22 : Opens Try.prog 22 (cdSl cdWd) := .slice (e := 82) (by kernel_rfl) o82 (by decide)
theorem o23 : Opens Try.prog 23 (cdSl cdOd) := .slice (e := 90) (by kernel_rfl) o90 (by decide)
abbrev cdRp := cdPair (cdSl cdWd) (cdPair (cdSl cdOd) (cdPair (cdInt .i64) cdUnit))
theorem o25 : Opens Try.prog 25 cdRp := .struct (fs := [(22, 0), (23, 1), (3, 2)]) (by kernel_rfl) (by kernel_rfl) (OpensF.cons o22 (OpensF.cons o23 (OpensF.cons o3 OpensF.nil)))
abbrev cdRx := cdPair (cdInt .i64) (cdPair (cdSl (cdInt .i64)) cdUnit)
theorem o28 : Opens Try.prog 28 cdRx := .struct (fs := [(3, 0), (26, 1)]) (by kernel_rfl) (by kernel_rfl) (OpensF.cons o3 (OpensF.cons o26 OpensF.nil))
theorem sli_cd {G : Hp} {a : Option Addr} {n c : Nat} {l : List Int} (h : SlR (cdInt .i64).k (cdInt .i64).R G a n c l) : SlR intE.k intE.R G a n c l := by
  have hi : ∀ (cs : List Value) x, (cdInt .i64).R G cs x → intE.R G cs (id x) := fun _ _ h => h.1
  have := SlR.map id hi h
  rwa [List.map_id] at this
theorem wd_cd {G : Hp} {cs : List Value} {x} (h : cdWd.R G cs x) : WuR G cs ⟨x.1, x.2.1⟩ := by
  obtain ⟨_, _, rfl, ⟨rfl, _⟩, _, _, rfl, ⟨a, n, c, rfl, h1, h2⟩, rfl⟩ := h
  exact ⟨_, rfl, a, n, c, rfl, sli_cd h1, h2⟩
theorem od_cd {G : Hp} {cs : List Value} {x} (h : cdOd.R G cs x) : odE.R G cs ⟨x.1, x.2.1, x.2.2.1, x.2.2.2.1⟩ := by
  obtain ⟨_, _, rfl, ⟨rfl, _⟩, _, _, rfl, ⟨rfl, _⟩, _, _, rfl, ⟨rfl, _⟩, _, _, rfl, ⟨rfl, _⟩, rfl⟩ := h
  rfl
theorem rp_val {G : Hp} {v : Value} (h : ∃ x, VR cdRp true G v x) : ∃ r, RuV G v r := by
  obtain ⟨x, cs, rfl, _, _, e, ⟨a, n, c, rfl, h1, h2⟩, _, _, rfl, ⟨a', n', c', rfl, h3, h4⟩, _, _, rfl, ⟨rfl, _⟩, rfl⟩ := h
  refine ⟨⟨x.1.map fun w => ⟨w.1, w.2.1⟩, x.2.1.map fun o => ⟨o.1, o.2.1, o.2.2.1, o.2.2.2.1⟩, x.2.2.1⟩, .slice a n c, .slice a' n' c', ?_, ⟨a, n, c, rfl, SlR.map _ (fun _ _ h => wd_cd h) h1, h2⟩, a', n', c', rfl, SlR.map _ (fun _ _ h => od_cd h) h3, h4⟩
  simp at e
  exact congrArg Value.agg (Array.toList_inj.1 e)
theorem rx_val {G : Hp} {v : Value} (h : ∃ x, VR cdRx true G v x) : ∃ x, XuV G v x := by
  obtain ⟨x, cs, rfl, _, _, e, ⟨rfl, _⟩, _, _, rfl, ⟨a, n, c, rfl, h1, h2⟩, rfl⟩ := h
  refine ⟨⟨x.1, x.2.1⟩, .slice a n c, ?_, a, n, c, rfl, sli_cd h1, h2⟩
  simp at e
  exact congrArg Value.agg (Array.toList_inj.1 e)
theorem int_val {G : Hp} {v : Value} (h : ∃ x, VR (cdInt .i64) false G v x) : ∃ n, intRd.R G v n ∧ inR .i64 n := by
  obtain ⟨x, e, hr⟩ := h
  have e : [v] = [I x] := e
  exact ⟨x, (List.cons.inj e).1, hr⟩
def u8Rd : Rd Int := ⟨fun _ v x => v = U x, fun {_ _ _ _} h h' => by rw [h] at h'; cases h'; rfl, fun {_ _ _ _} _ h => h⟩
abbrev U16 (n : Int) : Value := .int .u16 n
def u16Rd : Rd Int := ⟨fun _ v x => v = U16 x, fun {_ _ _ _} h h' => by rw [h] at h'; cases h'; rfl, fun {_ _ _ _} _ h => h⟩
theorem u8_val {G : Hp} {v : Value} (h : ∃ x, VR (cdInt .u8) false G v x) : ∃ n, u8Rd.R G v n ∧ 0 ≤ n ∧ n ≤ 255 := by
  obtain ⟨x, e, hr⟩ := h
  simp only [inR] at hr
  have e : [v] = [U x] := e
  exact ⟨x, (List.cons.inj e).1, hr.1, by omega⟩
theorem u16_val {G : Hp} {v : Value} (h : ∃ x, VR (cdInt .u16) false G v x) : ∃ n, u16Rd.R G v n ∧ 0 ≤ n ∧ n ≤ 65535 := by
  obtain ⟨x, e, hr⟩ := h
  simp only [inR] at hr
  have e : [v] = [U16 x] := e
  exact ⟨x, (List.cons.inj e).1, hr.1, by omega⟩
theorem ownK : ownKnob Try.checked.prog.godebug = none := by kernel_rfl
theorem laidK : laidOutB Try.checked.prog = true := by kernel_rfl
theorem boolK : Try.checked.prog.underlying 4 = some .bool := by kernel_rfl
abbrev rp0 : Value := .agg #[.slice none 0 0, .slice none 0 0, .int .i64 0]
abbrev rx0 : Value := .agg #[.int .i64 0, .slice none 0 0]
end Go.Proofs.Ytpcpjmplgladmaa
