/- Layer 9: what is drawn, with no bounds; few; the statements' copies; the error. Layer 9: reports and readers for the program. Layer 9: the view (the reference) is the program's. Layer 9: what is shut (the reference) is the program's. Layer 9: the index (the reference) is the program's. Layer 9: the drawn values, opened. -/
import Derived.Test.YtpcpjmplgladmaaMJ
import Derived.Test.YtpcpjmplgladmaaMC
import Derived.Test.YtpcpjmplgladmaaRows
set_option linter.unusedSimpArgs false
set_option linter.unusedVariables false
namespace Go.Proofs.Ytpcpjmplgladmaa
open Go.Pal Go.RowKit
set_option maxRecDepth 100000
def SlU {α : Type} (e : El α) (G : Hp) (v : Value) (l : List α) : Prop := ∃ a n c, v = .slice a n c ∧ SlR e.k e.R G a n c l ∧ n ≤ maxLen
theorem SlU.uniq {α : Type} {e : El α} {G : Hp} {v : Value} {x y : List α} (h : SlU e G v x) (h' : SlU e G v y) : x = y := by
  obtain ⟨a, n, c, rfl, h, _⟩ := h
  obtain ⟨a', n', c', e', h', _⟩ := h'
  cases e'
  exact h.uniq (fun cs x y h1 h2 => e.inj (h1.symm.trans h2)) h'
theorem SlU.grow {α : Type} {e : El α} {G G' : Hp} {v : Value} {x : List α} (hg : Grow G G') (h : SlU e G v x) : SlU e G' v x := by
  obtain ⟨a, n, c, rfl, h, hn⟩ := h
  exact ⟨a, n, c, rfl, SlR.grow (G := G) (G' := G') (fun _ _ h => h) h hg, hn⟩
theorem SlU.v {α : Type} {e : El α} {G : Hp} {v : Value} {x : List α} (h : SlU e G v x) (hb : x.length ≤ 140737488355328) : SlV e G v x := by
  obtain ⟨a, n, c, rfl, h, _⟩ := h
  exact ⟨a, n, c, rfl, h, by rw [← h.len]; exact hb⟩
def WuR (G : Hp) (cs : List Value) (w : Wd) : Prop := ∃ h, cs = [.string w.text, h] ∧ SlU intE G h w.heads
theorem WuR.uniq {G : Hp} {cs : List Value} {x y : Wd} (h : WuR G cs x) (h' : WuR G cs y) : x = y := by
  obtain ⟨a, e, h1⟩ := h
  obtain ⟨b, e', h2⟩ := h'
  rw [e] at e'
  simp only [List.cons.injEq, Value.string.injEq, and_true] at e'
  obtain ⟨e1, e2⟩ := e'
  subst e2
  have := h1.uniq h2
  cases x; cases y; simp_all
theorem WuR.grow {G G' : Hp} (hg : Grow G G') {cs : List Value} {x : Wd} (h : WuR G cs x) : WuR G' cs x := by
  obtain ⟨a, e, h1⟩ := h
  exact ⟨a, e, h1.grow hg⟩
structure RuC (G : Hp) (w o : Value) (r : Rp) : Prop where
  w : ∃ a n c, w = .slice a n c ∧ SlR 2 WuR G a n c r.words ∧ n ≤ maxLen
  o : SlU odE G o r.orders
theorem RuC.grow {G G' : Hp} (hg : Grow G G') {w o : Value} {r : Rp} (h : RuC G w o r) : RuC G' w o r := by
  obtain ⟨⟨a, n, c, e, h1, h2⟩, h3⟩ := h
  exact ⟨⟨a, n, c, e, SlR.grow (fun _ _ h => h.grow hg) h1 hg, h2⟩, h3.grow hg⟩
def RuV (G : Hp) (v : Value) (r : Rp) : Prop := ∃ w o, v = .agg #[w, o, I r.cols] ∧ RuC G w o r
def ruRd : Rd Rp := ⟨RuV, fun {_ _ x y} ⟨w, o, h, h1⟩ ⟨w', o', h', h1'⟩ => by
    subst h
    simp only [Value.agg.injEq, Array.mk.injEq, List.cons.injEq, Value.int.injEq, true_and, and_true] at h'
    obtain ⟨e1, e2, e3⟩ := h'
    subst e1; subst e2
    obtain ⟨a, n, c, rfl, k1, _⟩ := h1.w
    obtain ⟨a', n', c', e, k2, _⟩ := h1'.w
    cases e
    have m1 := SlR.uniq (fun cs x y h h' => WuR.uniq h h') k1 k2
    have m2 := h1.o.uniq h1'.o
    cases x; cases y; simp_all, fun hg ⟨w, o, h, h1⟩ => ⟨w, o, h, h1.grow hg⟩⟩
def XuV (G : Hp) (v : Value) (x : Rx) : Prop := ∃ m, v = .agg #[I x.year, m] ∧ SlU intE G m x.may
def xuRd : Rd Rx := ⟨XuV, fun {_ _ x y} ⟨m, h, h1⟩ ⟨m', h', h1'⟩ => by
    subst h
    simp only [Value.agg.injEq, Array.mk.injEq, List.cons.injEq, Value.int.injEq, true_and, and_true] at h'
    obtain ⟨e1, e2⟩ := h'
    subst e2
    have := h1.uniq h1'
    cases x; cases y; simp_all, fun hg ⟨m, h, h1⟩ => ⟨m, h, h1.grow hg⟩⟩
def fewW (w : Wd) : Bool := decide (w.text.size ≤ 25) && decide (w.heads.length ≤ 8)
def fewF (r : Rp) (x : Rx) : Bool := r.words.all fewW && (decide (r.words.length ≤ 65) && (decide (r.orders.length ≤ 15) && decide (x.may.length ≤ 12)))
structure Few (r : Rp) (x : Rx) : Prop where
  w : ∀ w ∈ r.words, w.text.size ≤ 25 ∧ w.heads.length ≤ 8
  wl : r.words.length ≤ 65
  ol : r.orders.length ≤ 15
  ml : x.may.length ≤ 12
theorem few_of {r : Rp} {x : Rx} (h : fewF r x = true) : Few r x := by
  simp only [fewF, fewW, Bool.and_eq_true, List.all_eq_true, decide_eq_true_eq] at h
  exact ⟨h.1, h.2.1, h.2.2.1, h.2.2.2⟩
theorem RuV.v {G : Hp} {v : Value} {r : Rp} {x : Rx} (h : RuV G v r) (hf : Few r x) : RpV G v r := by
  obtain ⟨w, o, e, ⟨a, n, c, e1, h1, _⟩, h2⟩ := h
  refine ⟨w, o, e, ⟨a, n, c, e1, SlR.conv h1 rfl fun i j1 j2 cs hcs => ?_, ?_⟩, h2.v (by have := hf.ol; omega)⟩
  · obtain ⟨hd, k1, k2⟩ := hcs
    exact ⟨hd, k1, k2.v (by have := (hf.w _ (List.getElem_mem j1)).2; omega)⟩
  · have := hf.wl; have := h1.len; omega
theorem XuV.v {G : Hp} {v : Value} {r : Rp} {x : Rx} (h : XuV G v x) (hf : Few r x) : RxV G v x := by
  obtain ⟨m, e, h1⟩ := h
  exact ⟨m, e, h1.v (by have := hf.ml; omega)⟩
theorem few13 : Sound Try.prog 13 id (gsca (args2 ruRd xuRd fun _ _ => True) fun p v => v = .bool (fewF p.1 p.2)) := by
  refine comp13.gsca (Tab.nil _) (fun args G s h => ?_) (fun args G p h => ?_)
  · obtain ⟨v, w, rfl, _⟩ := h; simp
  · obtain ⟨r, x⟩ := p
    obtain ⟨u, v, rfl, ⟨rw_, ro, rfl, ⟨wa, wn, wc, rfl, hw1, hw2⟩, ⟨oa, on, oc, rfl, ho1, ho2⟩⟩, ⟨m, rfl, ⟨ma, mn, mc, rfl, hm1, hm2⟩⟩, _⟩ := h
    dsimp only at hw1 ho1 hm1
    have hwn := hw1.len
    have hon := ho1.len
    have hmn := hm1.len
    have hml : maxLen ≤ 9223372036854775807 := by unfold maxLen; omega
    have hfw : fewF r x = (r.words.all fewW && (decide (r.words.length ≤ 65) && (decide (r.orders.length ≤ 15) && decide (x.may.length ≤ 12)))) := rfl
    dsimp only
    (conv => whnf)
    refine LoopP.of { α := Nat, fr := fun i => [(2, .c (.ptr 0 0)), (3, .c (.ptr 1 0)), (5, .v (I i))], H := fun _ => [(0, .cells .anon [.val (.slice wa wn wc), .val (.slice oa on oc), .val (I r.cols)] 25), (1, .cells .anon [.val (I x.year), .val (.slice ma mn mc)] 28)], ok := fun i _ => i ≤ wn ∧ (r.words.drop i).all fewW = r.words.all fewW, m := fun i => wn - i }
      0 (HeadP.of [] ⟨rfl, rfl, rfl, trivial⟩ ⟨rfl, rfl, trivial⟩) ⟨Nat.zero_le _, rfl⟩ (fun _ => ⟨rfl, rfl⟩) (fun (i : Nat) G1 hg1 hx => W.mk ?_)
    obtain ⟨hi, hx⟩ := hx
    have hw3 : SlR 2 WuR G1 wa wn wc r.words := SlR.grow (fun _ _ h => h.grow hg1) hw1 hg1
    dsimp only
    (conv => whnf)
    refine IteP.mk (fun hlt => W.mk ?_) (fun hge => W.mk ?_) <;> (conv => whnf)
    · have hlt : i < r.words.length := by omega
      rw [List.drop_eq_getElem_cons hlt, List.all_cons] at hx
      obtain ⟨cs, _, hc, hv, rfl, ha, hn, hcc, rfl, hh1, hh2⟩ := SlR.cells hw3 hlt
      have hhl := hh1.len
      have hlw : fewW r.words[i] = (decide (r.words[i].text.size ≤ 25) && decide (r.words[i].heads.length ≤ 8)) := rfl
      generalize r.words[i] = w at hx hc hh1 hhl hlw
      repeat' (first | (refine OblP.mk ?_ (W.mk ?_); (first | trivial | omega | (simp only [inR]; omega) | exact Nat.le_of_ble_eq_true (by rfl) | exact SlR.some (by assumption) (by omega)); (conv => whnf)) | (first | (refine RdP.at (by assumption) (by rfl) (W.mk ?_); (conv => whnf)) | (refine RdP.sub (by assumption) (by rfl) (W.mk ?_); (conv => whnf)) | (refine RdP.sub2 (by assumption) (by rfl) (W.mk ?_); (conv => whnf)) | (refine RdP.sub3 (by assumption) (by rfl) (W.mk ?_); (conv => whnf))))
      refine IteP.mk (fun h5 => W.mk ?_) (fun h5 => W.mk ?_) <;> (conv => whnf)
      · have h5 : ¬ w.text.size ≤ 25 := by omega
        refine FinP.mk ?_
        rw [hfw, ← hx, hlw, decide_eq_false h5]; rfl
      · have h5 : w.text.size ≤ 25 := by omega
        repeat' (first | (refine OblP.mk ?_ (W.mk ?_); (first | trivial | omega | (simp only [inR]; omega) | exact Nat.le_of_ble_eq_true (by rfl) | exact SlR.some (by assumption) (by omega)); (conv => whnf)) | (first | (refine RdP.at (by assumption) (by rfl) (W.mk ?_); (conv => whnf)) | (refine RdP.sub (by assumption) (by rfl) (W.mk ?_); (conv => whnf)) | (refine RdP.sub2 (by assumption) (by rfl) (W.mk ?_); (conv => whnf)) | (refine RdP.sub3 (by assumption) (by rfl) (W.mk ?_); (conv => whnf))))
        refine IteP.mk (fun h6 => W.mk ?_) (fun h6 => W.mk ?_) <;> (conv => whnf)
        · have h6 : ¬ w.heads.length ≤ 8 := by omega
          refine FinP.mk ?_
          rw [hfw, ← hx, hlw, decide_eq_false h6, Bool.and_false]; rfl
        · have h6 : w.heads.length ≤ 8 := by omega
          rw [hlw, decide_eq_true h5, decide_eq_true h6, Bool.true_and, Bool.true_and] at hx
          repeat' (first | (refine OblP.mk ?_ (W.mk ?_); (first | trivial | omega | (simp only [inR]; omega) | exact Nat.le_of_ble_eq_true (by rfl) | exact SlR.some (by assumption) (by omega)); (conv => whnf)) | (first | (refine RdP.at (by assumption) (by rfl) (W.mk ?_); (conv => whnf)) | (refine RdP.sub (by assumption) (by rfl) (W.mk ?_); (conv => whnf)) | (refine RdP.sub2 (by assumption) (by rfl) (W.mk ?_); (conv => whnf)) | (refine RdP.sub3 (by assumption) (by rfl) (W.mk ?_); (conv => whnf))))
          exact RoundP.of (i + 1) (HeadP.of [] ⟨rfl, rfl, rfl, trivial⟩ ⟨rfl, rfl, trivial⟩) ⟨by omega, hx⟩ (by simp only; omega)
    · rw [List.drop_of_length_le (by omega)] at hx
      have hx : true = r.words.all fewW := hx
      rw [← hx, Bool.true_and] at hfw
      refine IteP.mk (fun h5 => W.mk ?_) (fun h5 => W.mk ?_) <;> (conv => whnf)
      rotate_left
      · refine FinP.mk ?_
        rw [hfw, decide_eq_false (by omega)]; rfl
      refine IteP.mk (fun h6 => W.mk ?_) (fun h6 => W.mk ?_) <;> (conv => whnf)
      rotate_left
      · refine FinP.mk ?_
        rw [hfw, decide_eq_false (by omega : ¬ r.orders.length ≤ 15), Bool.false_and, Bool.and_false]; rfl
      refine IteP.mk (fun h7 => W.mk ?_) (fun h7 => W.mk ?_) <;> (conv => whnf)
      · refine FinP.mk ?_
        rw [hfw, decide_eq_true (by omega : r.words.length ≤ 65), decide_eq_true (by omega : r.orders.length ≤ 15), decide_eq_true (by omega : x.may.length ≤ 12)]; rfl
      · refine FinP.mk ?_
        rw [hfw, decide_eq_false (by omega : ¬ x.may.length ≤ 12), Bool.and_false, Bool.and_false]; rfl
theorem faultL18 : Sound Try.prog 18 id (gsca (args2 rpRd rxRd fun r _ => ∀ w ∈ r.words, w.text.size ≤ 1000) fun p v => v = I (faultX p.1 p.2)) := by
  refine comp18.gsca (Tab.cons 32 _ fault32 body32 (Tab.cons 49 _ reader49 body49 (Tab.nil _))) (fun args G s h => ?_) (fun args G p h => ?_)
  · obtain ⟨v, w, rfl, _⟩ := h; simp
  · obtain ⟨r, x⟩ := p
    obtain ⟨u, v, rfl, hr, hx, hb⟩ := h
    dsimp only at hr hx hb
    obtain ⟨rw_, ro, rfl, hrc⟩ := id hr
    obtain ⟨m, rfl, hm⟩ := id hx
    obtain ⟨oa, on, oc, rfl, ho1, ho2⟩ := id hrc.o
    obtain ⟨wa, wn, wc, rfl, hw1, hw2⟩ := id hrc.w
    obtain ⟨ma, mn, mc, rfl, hm1, hm2⟩ := id hm
    dsimp only
    (conv => whnf)
    refine ScaP.g (ok1 rpRd _) (x := r) ⟨_, rfl, hr, hb⟩ (fun v hv => W.mk ?_)
    subst hv
    (conv => whnf)
    refine IteP.mk (fun h1 => W.mk ?_) (fun h1 => W.mk ?_) <;> (conv => whnf)
    rotate_left
    · refine FinP.mk ?_
      rw [faultX, if_neg h1]; rfl
    have h1 : faultR r = 0 := h1
    refine ScaP.g (ok1 rxRd fun _ => True) (x := x) ⟨_, rfl, hx, trivial⟩ (fun v hv => W.mk ?_)
    subst hv
    (conv => whnf)
    refine ForkP.mk (fun h2 => W.mk ?_) (fun h2 => W.mk ?_) <;> (conv => whnf)
    · refine FinP.mk ?_
      rw [faultX, if_pos h1, if_pos h2]; rfl
    · refine FinP.mk ?_
      rw [faultX, if_pos h1, if_neg (by rw [h2]; simp)]; rfl
theorem ready23 : Sound Try.prog 23 id (gsca (args2 ruRd xuRd fun _ _ => True) fun p v => v = .bool (fewF p.1 p.2 && decide (faultX p.1 p.2 = 0))) := by
  refine comp23.gsca (Tab.cons 13 _ few13 body13 (Tab.cons 18 _ faultL18 body18 (Tab.nil _))) (fun args G s h => ?_) (fun args G p h => ?_)
  · obtain ⟨v, w, rfl, _⟩ := h; simp
  · obtain ⟨r, x⟩ := p
    obtain ⟨u, v, rfl, hr, hx, _⟩ := h
    dsimp only at hr hx
    obtain ⟨rw_, ro, rfl, ⟨wa, wn, wc, rfl, hw1, hw2⟩, ⟨oa, on, oc, rfl, ho1, ho2⟩⟩ := id hr
    obtain ⟨m, rfl, ⟨ma, mn, mc, rfl, hm1, hm2⟩⟩ := id hx
    dsimp only
    (conv => whnf)
    refine ScaP.g (ok2 ruRd xuRd fun _ _ => True) (x := (r, x)) ⟨_, _, rfl, hr, hx, trivial⟩ (fun v hv => W.mk ?_)
    subst hv
    dsimp only
    (conv => whnf)
    refine ForkP.mk (fun h1 => W.mk ?_) (fun h1 => W.mk ?_) <;> (conv => whnf)
    rotate_left
    · refine FinP.mk ?_
      rw [h1]; rfl
    have hf := few_of h1
    refine ScaP.g (ok2 rpRd rxRd _) (x := (r, x)) ⟨_, _, rfl, hr.v hf, hx.v hf, fun w hw => by have := (hf.w w hw).1; omega⟩ (fun v hv => W.mk ?_)
    subst hv
    dsimp only
    (conv => whnf)
    refine IteP.mk (fun h2 => W.mk ?_) (fun h2 => W.mk ?_) <;> (conv => whnf)
    · refine FinP.mk ?_
      rw [h1, decide_eq_true h2]; rfl
    · refine FinP.mk ?_
      rw [h1, decide_eq_false h2]; rfl
end Go.Proofs.Ytpcpjmplgladmaa

namespace Go.Proofs.Ytpcpjmplgladmaa
open Go.Pal Go.RowKit
set_option maxRecDepth 100000
theorem reader17 : Sound Try.prog 17 id (grel (args1 rxRd fun x => x.may.length ≤ 1000) fun x v G => RxV G v x) := by
  refine comp17.grel (Tab.cons 27 _ list27 body27 (Tab.nil _)) (ok1 _ _) (fun args G s h => ?_) (fun x v G G' hg h => rxRd.grow hg h) (fun args G x h => ?_)
  · obtain ⟨v, rfl, _⟩ := h; simp
  · obtain ⟨v, rfl, ⟨m, rfl, hm⟩, hb⟩ := h
    obtain ⟨ma, mn, mc, rfl, hm1, hm2⟩ := id hm
    (conv => whnf)
    refine RelP.g (ok1 (slRd intE) fun l => l.length ≤ 1000) (x := x.may) ⟨_, rfl, hm, hb⟩ (Grow.refl _) (fun v G1 hg1 hq => W.mk ?_)
    obtain ⟨a, n, c, rfl, h1, h2⟩ := id hq
    (conv => whnf)
    exact FinP.mk ⟨_, rfl, hq⟩
structure Repo (r : Rp) : Prop where
  wl : r.words.length ≤ 1000
  ol : r.orders.length ≤ 1000
  w : ∀ w ∈ r.words, w.heads.length ≤ 1000
theorem Few.repo {r : Rp} {x : Rx} (h : Few r x) : Repo r := ⟨by have := h.wl; omega, by have := h.ol; omega, fun w hw => by have := (h.w w hw).2; omega⟩
theorem report16 : Sound Try.prog 16 id (grel (args1 rpRd Repo) fun r v G => RpV G v r) := by
  refine comp16.grel (Tab.cons 27 _ list27 body27 (Tab.nil _)) (ok1 _ _) (fun args G s h => ?_) (fun x v G G' hg h => rpRd.grow hg h) (fun args G r h => ?_)
  · obtain ⟨v, rfl, _⟩ := h; simp
  · obtain ⟨v, rfl, ⟨rw_, ro, rfl, hrc⟩, hb⟩ := h
    obtain ⟨oa, on, oc, rfl, ho1, ho2⟩ := id hrc.o
    obtain ⟨wa, wn, wc, rfl, hw1, hw2⟩ := id hrc.w
    have hwn := hw1.len
    have hon := ho1.len
    have hwl := hb.wl
    have hol := hb.ol
    (conv => whnf)
    refine LoopP.of { α := Nat × List Raw × List Value, fr := fun y => [(1, .c (.ptr 0 0)), (2, .c (.ptr 1 0)), (3, .c (.ptr 5 0)), (4, .v (I y.1))], H := fun y => [(0, .cells .anon [.val (.slice wa wn wc), .val (.slice oa on oc), .val (I r.cols)] 25), (1, .cells .anon [.val (.slice none 0 0), .val (.slice none 0 0), .val (I 0)] 38), (5, .cells .anon [.row 3 y.1, .val (.slice none 0 0), .val (I r.cols)] 38), (3, .row none y.1 y.2.2 104 2)], ok := fun y G => y.1 ≤ wn ∧ Row wdhE y.2.1 y.1 y.2.2 ∧ ∀ i (h : i < y.2.1.length) (h2 : i < r.words.length), WdR G (wdhE.f y.2.1[i]) r.words[i], m := fun y => wn - y.1 }
      (0, [], []) (HeadP.of [(3, none)] ⟨rfl, rfl, rfl, rfl, trivial⟩ ⟨rfl, rfl, rfl, rfl, trivial⟩) ⟨Nat.zero_le _, Row.nil, fun i h => by simp at h⟩ (fun _ => ⟨rfl, rfl⟩) (fun y G1 hg1 hx => W.mk ?_)
    obtain ⟨i, L, vs⟩ := y
    obtain ⟨hi, hrow, hrd⟩ := hx
    dsimp only at hi hrow hrd
    have hLn := hrow.n
    have hw3 : SlR 2 WdR G1 wa wn wc r.words := SlR.grow (fun _ _ h => h.grow hg1) hw1 hg1
    dsimp only
    (conv => whnf)
    refine IteP.mk (fun hlt => W.mk ?_) (fun hge => W.mk ?_) <;> (conv => whnf)
    · have hlt : i < r.words.length := by omega
      obtain ⟨cs, _, hc, hv, rfl, ha, hn, hcc, rfl, hh1, hh2⟩ := SlR.cells hw3 hlt
      have hhb := hb.w _ (List.getElem_mem hlt)
      generalize hwd : r.words[i] = w at hc hh1 hhb
      repeat' (first | (refine OblP.mk ?_ (W.mk ?_); (first | trivial | omega | (simp only [inR]; omega) | exact Nat.le_of_ble_eq_true (by rfl) | exact SlR.some (by assumption) (by omega)); (conv => whnf)) | (first | (refine RdP.at (by assumption) (by rfl) (W.mk ?_); (conv => whnf)) | (refine RdP.sub (by assumption) (by rfl) (W.mk ?_); (conv => whnf)) | (refine RdP.sub2 (by assumption) (by rfl) (W.mk ?_); (conv => whnf)) | (refine RdP.sub3 (by assumption) (by rfl) (W.mk ?_); (conv => whnf))))
      refine RelP.g (ok1 (slRd intE) fun l => l.length ≤ 1000) (x := w.heads) ⟨_, rfl, ⟨_, _, _, rfl, hh1, hh2⟩, hhb⟩ (Grow.refl _) (fun v G2 hg2 hq => W.mk ?_)
      obtain ⟨a1, n1, c1, rfl, _, _⟩ := id hq
      (conv => whnf)
      repeat' (first | (refine OblP.mk rfl (W.mk ?_); (conv => whnf)) | (refine OblP.mk ?_ (W.mk ?_); (first | trivial | omega | (simp only [inR]; omega) | exact Nat.le_of_ble_eq_true (by rfl) | exact SlR.some (by assumption) (by omega)); (conv => whnf)) | (first | (refine RdP.at (by assumption) (by rfl) (W.mk ?_); (conv => whnf)) | (refine RdP.sub (by assumption) (by rfl) (W.mk ?_); (conv => whnf)) | (refine RdP.sub2 (by assumption) (by rfl) (W.mk ?_); (conv => whnf)) | (refine RdP.sub3 (by assumption) (by rfl) (W.mk ?_); (conv => whnf))))
      refine RoundP.of (i + 1, L ++ [(w.text, a1, n1, c1)], vs ++ [Value.string w.text, Value.slice a1 n1 c1]) (HeadP.of [(3, some 30)] ⟨rfl, rfl, rfl, rfl, trivial⟩ ⟨rfl, rfl, rfl, rfl, trivial⟩) ⟨by show i + 1 ≤ wn; omega, hrow.snoc (w.text, a1, n1, c1), fun k k1 k2 => ?_⟩ (by simp only; omega)
      dsimp only at k1 ⊢
      rw [List.getElem_append]
      split
      · rename_i k3
        exact (hrd k k3 k2).grow hg2
      · have hk : k = i := by simp at k1; omega
        subst hk
        rw [hwd]
        simp only [List.getElem_singleton]
        exact ⟨_, rfl, hq⟩
    have hie : i = r.words.length := by omega
    subst hie
    refine LoopP.of { α := Nat × List Value, fr := fun y => [(1, .c (.ptr 0 0)), (2, .c (.ptr 1 0)), (3, .c (.ptr 5 0)), (5, .v (I y.1))], H := fun y => [(0, .cells .anon [.val (.slice wa wn wc), .val (.slice oa on oc), .val (I r.cols)] 25), (1, .cells .anon [.val (.slice none 0 0), .val (.slice none 0 0), .val (I 0)] 38), (5, .cells .anon [.row 3 r.words.length, .row 4 y.1, .val (I r.cols)] 38), (3, .row none r.words.length vs 104 2), (4, .row none y.1 y.2 65 4)], ok := fun y G => y.1 ≤ on ∧ Row odE (r.orders.take y.1) y.1 y.2, m := fun y => on - y.1 }
      (0, []) (HeadP.of [(4, none)] ⟨rfl, rfl, rfl, rfl, trivial⟩ ⟨rfl, rfl, rfl, rfl, rfl, trivial⟩) ⟨Nat.zero_le _, Row.nil⟩ (fun _ => ⟨rfl, rfl⟩) (fun y G3 hg3 hx => W.mk ?_)
    obtain ⟨k, us⟩ := y
    obtain ⟨hk, hrow2⟩ := hx
    dsimp only at hk hrow2
    dsimp only
    (conv => whnf)
    refine IteP.mk (fun hlt => W.mk ?_) (fun hge2 => W.mk ?_) <;> (conv => whnf)
    · have hlt : k < r.orders.length := by omega
      have hc := (SlR.grow (G := G) (G' := G3) (fun _ _ h => h) ho1 (hg1.trans hg3)).el hlt
      have htk := take_snoc (List.getElem?_eq_getElem hlt)
      generalize r.orders[k] = o at hc htk
      have hc : CellsAt G3 (ab oa) (ao oa + k * 4) [I o.f, I o.t, I o.k, I o.u] := hc
      repeat' (first | (refine OblP.mk rfl (W.mk ?_); (conv => whnf)) | (refine OblP.mk ?_ (W.mk ?_); (first | trivial | omega | (simp only [inR]; omega) | exact Nat.le_of_ble_eq_true (by rfl) | exact SlR.some (by assumption) (by omega)); (conv => whnf)) | (first | (refine RdP.at (by assumption) (by rfl) (W.mk ?_); (conv => whnf)) | (refine RdP.sub (by assumption) (by rfl) (W.mk ?_); (conv => whnf)) | (refine RdP.sub2 (by assumption) (by rfl) (W.mk ?_); (conv => whnf)) | (refine RdP.sub3 (by assumption) (by rfl) (W.mk ?_); (conv => whnf))))
      refine RoundP.of (k + 1, us ++ [I o.f, I o.t, I o.k, I o.u]) (HeadP.of [(4, some 61)] ⟨rfl, rfl, rfl, rfl, trivial⟩ ⟨rfl, rfl, rfl, rfl, rfl, trivial⟩) ⟨by show k + 1 ≤ on; omega, ?_⟩ (by simp only; omega)
      dsimp only
      rw [htk]
      exact hrow2.snoc o
    have hke : k = r.orders.length := by omega
    subst hke
    rw [List.take_length] at hrow2
    refine PubP.mk (fun a1 c1 G4 hg4 h4 => W.mk ?_)
    (conv => whnf)
    refine PubP.mk (fun a2 c2 G5 hg5 h5 => W.mk ?_)
    (conv => whnf)
    refine FinP.mk ⟨_, _, rfl, ?_, hrow2.pub h5 (by omega)⟩
    obtain ⟨_, _, _, q1, q2, q3⟩ := (hrow.pub h4 (by omega)).grow hg5
    cases q1
    refine ⟨_, _, _, rfl, SlR.conv q2 (by rw [hLn]) fun i j1 j2 cs hcs => ?_, q3⟩
    have hcs : cs = wdhE.f _ := hcs
    subst hcs
    exact (hrd i j1 j2).grow ((hg3.trans hg4).trans hg5)
end Go.Proofs.Ytpcpjmplgladmaa

namespace Go.Proofs.Ytpcpjmplgladmaa
open Go.Pal Go.RowKit
set_option maxRecDepth 100000
theorem sh_last (r : Rp) (x : Rx) : ∀ i : Nat, 1 ≤ i → shK r x i ≠ [] ∧ ((shK r x i).getD ((shK r x i).length - 1) 0 = -1 ↔ hidF r x ((i - 1 : Nat) : Int) = true)
  | i + 1, _ => by
    have snoc : ∀ (l : List Int) (a : Int), (l ++ [a]).getD ((l ++ [a]).length - 1) 0 = a := fun l a => by simp
    simp only [shK, Nat.add_sub_cancel]
    by_cases h : hidF r x i = true
    · rw [if_pos h]
      split
      · rw [snoc]; simp [h]
      · rename_i h1
        simp only [not_or, Decidable.not_not] at h1
        exact ⟨fun e => h1.1 (by rw [e]; rfl), fun _ => h, fun _ => h1.2⟩
    · rw [if_neg h, snoc]
      refine ⟨by simp, ?_⟩
      simp only [h]
      constructor
      · intro e; omega
      · intro e; cases e
theorem pc_sh (r : Rp) (x : Rx) : ∀ i : Nat, (pcK (rgOf r x) i).map (·.1) = shK r x i
  | 0 => rfl
  | i + 1 => by
    have ih := pc_sh r x i
    have hlast := sh_last r x i
    simp only [pcK, shK]
    show List.map _ (if hidF r x i = true then (if 0 < i ∧ hidF r x ((i - 1 : Nat) : Int) = true then _ else _) else _) = _
    by_cases h : hidF r x i = true
    · rw [if_pos h, if_pos h]
      by_cases h0 : 0 < i
      · obtain ⟨k1, k2⟩ := hlast h0
        have hl : (shK r x i).length ≠ 0 := fun e => k1 (List.eq_nil_of_length_eq_zero e)
        by_cases hp : hidF r x ((i - 1 : Nat) : Int) = true
        · rw [if_pos ⟨h0, hp⟩, if_neg (fun e => e.elim hl (fun e => e (k2.2 hp))), ih]
        · rw [if_neg (fun e => hp e.2), if_pos (.inr fun e => hp (k2.1 e)), List.map_append, ih]; rfl
      · have : i = 0 := by omega
        subst this
        rfl
    · rw [if_neg h, if_neg h, List.map_append, ih]; rfl
theorem pcF_sh (r : Rp) (x : Rx) : (pcF (rgOf r x)).map (·.1) = shF r x := pc_sh r x _
theorem pcK_at (g : Rg) : ∀ (i k : Nat) (e : Int × Pc), (pcK g i)[k]? = some e → e.2.col = (k : Int) / g.r.cols + 1 ∧ e.2.text = if e.1 = -1 then noText else (g.r.words.getD e.1.toNat ⟨noText, []⟩).text
  | 0, k, e, h => by simp [pcK] at h
  | i + 1, k, e, h => by
    have ih := pcK_at g i k e
    have app : ∀ e' : Int × Pc, (e'.2.col = ((pcK g i).length : Int) / g.r.cols + 1 ∧ e'.2.text = if e'.1 = -1 then noText else (g.r.words.getD e'.1.toNat ⟨noText, []⟩).text) → (pcK g i ++ [e'])[k]? = some e → e.2.col = (k : Int) / g.r.cols + 1 ∧ e.2.text = if e.1 = -1 then noText else (g.r.words.getD e.1.toNat ⟨noText, []⟩).text := fun e' he hk => by
      by_cases h1 : k < (pcK g i).length
      · rw [List.getElem?_append_left h1] at hk; exact ih hk
      · have h2 := (List.getElem?_eq_some_iff.1 hk).1
        have h2 : k = (pcK g i).length := by simp at h2; omega
        subst h2
        simp at hk
        subst hk
        exact he
    simp only [pcK] at h
    by_cases hp : g.p i = true
    · rw [if_pos hp] at h
      by_cases h2 : 0 < i ∧ g.p (i - 1) = true
      · rw [if_pos h2] at h; exact ih h
      · rw [if_neg h2] at h
        exact app (-1, ⟨noText, (pcK g i).length / g.r.cols + 1⟩) ⟨rfl, by simp⟩ h
    · rw [if_neg hp] at h
      exact app ((i : Int), ⟨(g.r.words.getD i ⟨noText, []⟩).text, (pcK g i).length / g.r.cols + 1⟩) ⟨rfl, by rw [if_neg (by show ¬ (i : Int) = -1; omega)]; rfl⟩ h
theorem fine_ok {r : Rp} (h : Fine r) : RpOk r := ⟨fun o ho => by have := h.o o ho; have := h.wl; omega, by have := h.wl; omega⟩
def tabRf : Tab Try.prog := Tab.cons 33 _ shown33 body33 tabC
theorem look34 : Sound Try.prog 34 id (grel (args2 rpRd rxRd fun r _ => Fine r) fun p v G => SlV pcE G v (lookF p.1 p.2)) := by
  refine comp34.grel tabRf (ok2 _ _ _) (fun args G s h => ?_) (fun x v G G' hg h => h.grow hg) (fun args G p h => ?_)
  · obtain ⟨v, w, rfl, _⟩ := h; simp
  · obtain ⟨r, x⟩ := p
    obtain ⟨u, v, rfl, hr, hx, hf⟩ := h
    dsimp only at hr hx hf
    obtain ⟨rw_, ro, rfl, hrc⟩ := id hr
    obtain ⟨m, rfl, hm⟩ := id hx
    obtain ⟨oa, on, oc, rfl, ho1, ho2⟩ := id hrc.o
    obtain ⟨wa, wn, wc, rfl, hw1, hw2⟩ := id hrc.w
    obtain ⟨ma, mn, mc, rfl, hm1, hm2⟩ := id hm
    have hwn := hw1.len
    have hcl := hf.c
    have hwl := hf.wl
    have hplen := pcF_len (rgOf r x)
    have hplen : (pcF (rgOf r x)).length ≤ r.words.length := hplen
    dsimp only
    (conv => whnf)
    refine RelP.g (ok2 rpRd rxRd fun r _ => RpOk r) (x := (r, x)) ⟨_, _, rfl, hr, hx, fine_ok hf⟩ (Grow.refl _) (fun v G1 hg1 hq => W.mk ?_)
    dsimp only at hq
    rw [← pcF_sh] at hq
    obtain ⟨sa, sn, sc, rfl, hs1, hs2⟩ := hq
    have hsn := hs1.len
    rw [List.length_map] at hsn
    (conv => whnf)
    refine LoopP.of { α := Nat × List Value, fr := fun y => [(2, .c (.ptr 0 0)), (5, .c (.row 3 y.1)), (6, .v (.slice sa sn sc)), (7, .v (I y.1))], H := fun y => [(0, .cells .anon [.val (.slice wa wn wc), .val (.slice oa on oc), .val (I r.cols)] 25), (3, .row none y.1 y.2 78 2)], ok := fun y G => y.1 ≤ sn ∧ Row pcE ((lookF r x).take y.1) y.1 y.2, m := fun y => sn - y.1 }
      (0, []) (HeadP.of [(3, none)] ⟨rfl, rfl, rfl, rfl, trivial⟩ ⟨rfl, rfl, trivial⟩) ⟨Nat.zero_le _, Row.nil⟩ (fun _ => ⟨rfl, rfl⟩) (fun y G2 hg2 hx2 => W.mk ?_)
    obtain ⟨i, vs⟩ := y
    obtain ⟨hi, hrow⟩ := hx2
    dsimp only at hi hrow
    dsimp only
    (conv => whnf)
    refine IteP.mk (fun hlt => W.mk ?_) (fun hge => W.mk ?_) <;> (conv => whnf)
    · have hlt : i < (pcF (rgOf r x)).length := by omega
      have hcol : inR .i64 ((i : Int) / r.cols) ∧ inR .i64 ((i : Int) / r.cols + 1) := by
        have h1 := Int.ediv_nonneg (show (0 : Int) ≤ i by omega) (show 0 ≤ r.cols by omega)
        have h2 : (i : Int) / r.cols ≤ i := Int.ediv_le_self _ (by omega)
        simp only [inR]; omega
      have hc := (SlR.grow (G := G1) (G' := G2) (fun _ _ h => h) hs1 hg2).el (i := i) (by simpa using hlt)
      rw [List.getElem_map] at hc
      obtain ⟨k1, k2⟩ := pcK_at (rgOf r x) _ i _ (List.getElem?_eq_getElem hlt)
      have htk : (lookF r x).take (i + 1) = (lookF r x).take i ++ [(pcF (rgOf r x))[i].2] := by
        rw [lookF]; exact take_snoc (by simp [hlt])
      have hmem := pcK_mem (rgOf r x) _ _ (List.getElem_mem hlt)
      have k1 : (pcF (rgOf r x))[i].2.col = (i : Int) / r.cols + 1 := k1
      have k2 : (pcF (rgOf r x))[i].2.text = if (pcF (rgOf r x))[i].1 = -1 then noText else (r.words.getD (pcF (rgOf r x))[i].1.toNat ⟨noText, []⟩).text := k2
      have hmem : (pcF (rgOf r x))[i].1 = -1 ∨ ∃ j : Nat, j < r.words.length ∧ (pcF (rgOf r x))[i].1 = j := hmem
      generalize (pcF (rgOf r x))[i] = e at hc k1 k2 htk hmem
      obtain ⟨sh, tx, cl⟩ := e
      dsimp only at hc k1 k2 hmem
      subst k1
      repeat' (first | (refine OblP.mk ?_ (W.mk ?_); (first | trivial | omega | (simp only [inR]; omega) | exact Nat.le_of_ble_eq_true (by rfl) | exact SlR.some (by assumption) (by omega)); (conv => whnf)) | (first | (refine RdP.at (by assumption) (by rfl) (W.mk ?_); (conv => whnf)) | (refine RdP.sub (by assumption) (by rfl) (W.mk ?_); (conv => whnf)) | (refine RdP.sub2 (by assumption) (by rfl) (W.mk ?_); (conv => whnf)) | (refine RdP.sub3 (by assumption) (by rfl) (W.mk ?_); (conv => whnf))) | (refine OblP.mk ⟨by omega, by omega, by simp only [inR]; omega⟩ (W.mk ?_); (conv => whnf)) | (refine OblP.mk hcol.2 (W.mk ?_); (conv => whnf)))
      rcases hmem with rfl | ⟨j, hj, rfl⟩
      · rw [if_pos rfl] at k2
        subst k2
        refine IteP.mk (fun h5 => by exfalso; omega) (fun _ => W.mk ?_)
        (conv => whnf)
        repeat' (first | (refine OblP.mk rfl (W.mk ?_); (conv => whnf)) | (refine OblP.mk ?_ (W.mk ?_); (first | trivial | omega | (simp only [inR]; omega) | exact Nat.le_of_ble_eq_true (by rfl) | exact SlR.some (by assumption) (by omega)); (conv => whnf)) | (first | (refine RdP.at (by assumption) (by rfl) (W.mk ?_); (conv => whnf)) | (refine RdP.sub (by assumption) (by rfl) (W.mk ?_); (conv => whnf)) | (refine RdP.sub2 (by assumption) (by rfl) (W.mk ?_); (conv => whnf)) | (refine RdP.sub3 (by assumption) (by rfl) (W.mk ?_); (conv => whnf))))
        refine RoundP.of (i + 1, vs ++ [Value.string noText, I ((i : Int) / r.cols + 1)]) (HeadP.of [(3, some 40)] ⟨rfl, rfl, rfl, rfl, trivial⟩ ⟨rfl, rfl, trivial⟩) ⟨by show i + 1 ≤ sn; omega, ?_⟩ (by simp only; omega)
        dsimp only
        rw [htk]
        exact hrow.snoc _
      · rw [if_neg (by omega)] at k2
        have hgd : r.words.getD ((j : Nat) : Int).toNat ⟨noText, []⟩ = r.words[j] := by simp [hj]
        rw [hgd] at k2
        subst k2
        obtain ⟨cs, _, hcw, hv, rfl, ha, hn, hcc, rfl, hh1, hh2⟩ := SlR.cells (SlR.grow (fun _ _ h => h.grow (hg1.trans hg2)) hw1 (hg1.trans hg2)) hj
        generalize r.words[j].text = tx at hcw htk
        refine IteP.mk (fun _ => W.mk ?_) (fun h5 => by exfalso; omega)
        (conv => whnf)
        repeat' (first | (refine OblP.mk rfl (W.mk ?_); (conv => whnf)) | (refine OblP.mk ?_ (W.mk ?_); (first | trivial | omega | (simp only [inR]; omega) | exact Nat.le_of_ble_eq_true (by rfl) | exact SlR.some (by assumption) (by omega)); (conv => whnf)) | (first | (refine RdP.at (by assumption) (by rfl) (W.mk ?_); (conv => whnf)) | (refine RdP.sub (by assumption) (by rfl) (W.mk ?_); (conv => whnf)) | (refine RdP.sub2 (by assumption) (by rfl) (W.mk ?_); (conv => whnf)) | (refine RdP.sub3 (by assumption) (by rfl) (W.mk ?_); (conv => whnf))))
        refine RoundP.of (i + 1, vs ++ [Value.string tx, I ((i : Int) / r.cols + 1)]) (HeadP.of [(3, some 40)] ⟨rfl, rfl, rfl, rfl, trivial⟩ ⟨rfl, rfl, trivial⟩) ⟨by show i + 1 ≤ sn; omega, ?_⟩ (by simp only; omega)
        dsimp only
        rw [htk]
        exact hrow.snoc _
    · have hie : i = (pcF (rgOf r x)).length := by omega
      subst hie
      have hll : (lookF r x).take (pcF (rgOf r x)).length = lookF r x := List.take_of_length_le (by rw [lookF, List.length_map]; exact Nat.le_refl _)
      rw [hll] at hrow
      refine PubP.mk (fun a1 c1 G3 hg3 hp => W.mk ?_)
      (conv => whnf)
      exact FinP.mk (hrow.pub hp (by omega))
end Go.Proofs.Ytpcpjmplgladmaa

namespace Go.Proofs.Ytpcpjmplgladmaa
open Go.Pal Go.RowKit
set_option maxRecDepth 100000
end Go.Proofs.Ytpcpjmplgladmaa

namespace Go.Proofs.Ytpcpjmplgladmaa
open Go.Pal Go.RowKit
set_option maxRecDepth 100000
end Go.Proofs.Ytpcpjmplgladmaa

namespace Go.Proofs.Ytpcpjmplgladmaa
open Go.Pal Go.ChangeShapes
theorem SlR.map {α β : Type} {k : Nat} {R : Hp → List Value → α → Prop} {R' : Hp → List Value → β → Prop} {G : Hp} {a : Option Addr} {n c : Nat} {l : List α} (f : α → β) (hf : ∀ cs x, R G cs x → R' G cs (f x)) (h : SlR k R G a n c l) : SlR k R' G a n c (l.map f) :=
  ⟨by rw [List.length_map, h.len], h.cap, h.some, fun i hi => by
    obtain ⟨cs, h1, h2, h3⟩ := h.at_ i (by simpa using hi)
    exact ⟨cs, h1, h2, by rw [List.getElem_map]; exact hf _ _ h3⟩⟩
theorem udl5 : Try.prog.underlying 5 = some (.int .u8) := by kernel_rfl
theorem o3 : Opens Try.prog 3 (cdInt .i64) := .int und3
theorem o5 : Opens Try.prog 5 (cdInt .u8) := .int udl5
theorem o9 : Opens Try.prog 9 cdStr := .str und9
theorem o26 : Opens Try.prog 26 (cdSl (cdInt .i64)) := .slice (e := 3) (by kernel_rfl) o3 (by decide)
abbrev cdWd := cdPair cdStr (cdPair (cdSl (cdInt .i64)) cdUnit)
theorem o82 : Opens Try.prog 82 cdWd := .struct (fs := [(9, 0), (26, 1)]) (by kernel_rfl) (by kernel_rfl) (OpensF.cons o9 (OpensF.cons o26 OpensF.nil))
abbrev cdOd := cdPair (cdInt .i64) (cdPair (cdInt .i64) (cdPair (cdInt .i64) (cdPair (cdInt .i64) cdUnit)))
theorem o90 : Opens Try.prog 90 cdOd := .struct (fs := [(3, 0), (3, 1), (3, 2), (3, 3)]) (by kernel_rfl) (by kernel_rfl) (OpensF.cons o3 (OpensF.cons o3 (OpensF.cons o3 (OpensF.cons o3 OpensF.nil))))
theorem o22 : Opens Try.prog 22 (cdSl cdWd) := .slice (e := 82) (by kernel_rfl) o82 (by decide)
theorem o23 : Opens Try.prog 23 (cdSl cdOd) := .slice (e := 90) (by kernel_rfl) o90 (by decide)
abbrev cdRp := cdPair (cdSl cdWd) (cdPair (cdSl cdOd) (cdPair (cdInt .i64) cdUnit))
theorem o25 : Opens Try.prog 25 cdRp := .struct (fs := [(22, 0), (23, 1), (3, 2)]) (by kernel_rfl) (by kernel_rfl) (OpensF.cons o22 (OpensF.cons o23 (OpensF.cons o3 OpensF.nil)))
abbrev cdRx := cdPair (cdInt .i64) (cdPair (cdSl (cdInt .i64)) cdUnit)
theorem o28 : Opens Try.prog 28 cdRx := .struct (fs := [(3, 0), (26, 1)]) (by kernel_rfl) (by kernel_rfl) (OpensF.cons o3 (OpensF.cons o26 OpensF.nil))
theorem sli_cd {G : Hp} {a : Option Addr} {n c : Nat} {l : List Int} (h : SlR (cdInt .i64).k (cdInt .i64).R G a n c l) : SlR intE.k intE.R G a n c l := by
  have hi : ∀ (cs : List Value) x, (cdInt .i64).R G cs x → intE.R G cs (id x) := fun _ _ h => h.1
  have := SlR.map id hi h
  rwa [List.map_id] at this
theorem wd_cd {G : Hp} {cs : List Value} {x} (h : cdWd.R G cs x) : WuR G cs ⟨x.1, x.2.1⟩ := by
  obtain ⟨_, _, rfl, ⟨rfl, _⟩, _, _, rfl, ⟨a, n, c, rfl, h1, h2⟩, rfl⟩ := h
  exact ⟨_, rfl, a, n, c, rfl, sli_cd h1, h2⟩
theorem od_cd {G : Hp} {cs : List Value} {x} (h : cdOd.R G cs x) : odE.R G cs ⟨x.1, x.2.1, x.2.2.1, x.2.2.2.1⟩ := by
  obtain ⟨_, _, rfl, ⟨rfl, _⟩, _, _, rfl, ⟨rfl, _⟩, _, _, rfl, ⟨rfl, _⟩, _, _, rfl, ⟨rfl, _⟩, rfl⟩ := h
  rfl
theorem rp_val {G : Hp} {v : Value} (h : ∃ x, VR cdRp true G v x) : ∃ r, RuV G v r := by
  obtain ⟨x, cs, rfl, _, _, e, ⟨a, n, c, rfl, h1, h2⟩, _, _, rfl, ⟨a', n', c', rfl, h3, h4⟩, _, _, rfl, ⟨rfl, _⟩, rfl⟩ := h
  refine ⟨⟨x.1.map fun w => ⟨w.1, w.2.1⟩, x.2.1.map fun o => ⟨o.1, o.2.1, o.2.2.1, o.2.2.2.1⟩, x.2.2.1⟩, .slice a n c, .slice a' n' c', ?_, ⟨a, n, c, rfl, SlR.map _ (fun _ _ h => wd_cd h) h1, h2⟩, a', n', c', rfl, SlR.map _ (fun _ _ h => od_cd h) h3, h4⟩
  simp at e
  exact congrArg Value.agg (Array.toList_inj.1 e)
theorem rx_val {G : Hp} {v : Value} (h : ∃ x, VR cdRx true G v x) : ∃ x, XuV G v x := by
  obtain ⟨x, cs, rfl, _, _, e, ⟨rfl, _⟩, _, _, rfl, ⟨a, n, c, rfl, h1, h2⟩, rfl⟩ := h
  refine ⟨⟨x.1, x.2.1⟩, .slice a n c, ?_, a, n, c, rfl, sli_cd h1, h2⟩
  simp at e
  exact congrArg Value.agg (Array.toList_inj.1 e)
theorem ownK : ownKnob Try.checked.prog.godebug = none := by kernel_rfl
theorem laidK : laidOutB Try.checked.prog = true := by kernel_rfl
theorem boolK : Try.checked.prog.underlying 4 = some .bool := by kernel_rfl
abbrev rp0 : Value := .agg #[.slice none 0 0, .slice none 0 0, .int .i64 0]
abbrev rx0 : Value := .agg #[.int .i64 0, .slice none 0 0]
end Go.Proofs.Ytpcpjmplgladmaa
