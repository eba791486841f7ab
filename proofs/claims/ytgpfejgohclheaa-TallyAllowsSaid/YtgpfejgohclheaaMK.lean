/- Layer 7: what is drawn: a division with no bounds on its lists; few. Layer 7, plain: the truths that fit are those that are gone through. Layer 7: the drawn values, opened. Layer 7, plain: who is in a pair does not count; at most as many count as there are members in no pair. Layer 7, plain: the answers of the members of a question, as they are told to the tellers. Layer 7: told: a list of a teller in which a member is, or is not. Layer 7: ref.Truths: all truths that fit, as a row of rows. Layer 7: small, of a division of any size. Layer 7, plain: the truths of the reference; whether members decide; the least question by all sets. Layer 7, the first seat: the law TallyBounds. Layer 7, the first seat: the law TallyAllows. Layer 7, the first seat: a drawn byte and a drawn truth value, opened. -/
import Derived.Test.YtgpfejgohclheaaMJ
import Derived.Test.YtgpfejgohclheaaMC
import Derived.Test.YtgpfejgohclheaaRows
import Derived.Test.YtgpfejgohclheaaME
import Derived.Test.YtgpfejgohclheaaMD
namespace Go.Proofs.Ytgpfejgohclheaa
open Go.Pal
set_option maxRecDepth 100000
def SlU {α : Type} (e : El α) (G : Hp) (v : Value) (l : List α) : Prop := ∃ a n c, v = .slice a n c ∧ SlR e.k e.R G a n c l
theorem SlU.uniq {α : Type} {e : El α} {G : Hp} {v : Value} {x y : List α} (h : SlU e G v x) (h' : SlU e G v y) : x = y := by
  obtain ⟨a, n, c, rfl, h⟩ := h
  obtain ⟨a', n', c', e', h'⟩ := h'
  cases e'
  exact h.uniq (fun cs x y h1 h2 => e.inj (h1.symm.trans h2)) h'
theorem SlU.grow {α : Type} {e : El α} {G G' : Hp} {v : Value} {x : List α} (hg : Grow G G') (h : SlU e G v x) : SlU e G' v x := by
  obtain ⟨a, n, c, rfl, h⟩ := h
  exact ⟨a, n, c, rfl, SlR.grow (G := G) (G' := G') (fun _ _ h => h) h hg⟩
theorem SlU.v {α : Type} {e : El α} {G : Hp} {v : Value} {x : List α} (h : SlU e G v x) (hb : x.length ≤ 140737488355328) : SlV e G v x := by
  obtain ⟨a, n, c, rfl, h⟩ := h
  exact ⟨a, n, c, rfl, h, by rw [← h.len]; exact hb⟩
structure DuC (G : Hp) (w0 w1 w2 w3 w4 w5 : Value) (d : Dv) : Prop where
  a0 : SlU intE G w0 d.a0
  a1 : SlU intE G w1 d.a1
  n0 : SlU intE G w2 d.n0
  n1 : SlU intE G w3 d.n1
  ps : SlU prE G w4 d.ps
  qs : SlU prE G w5 d.qs
theorem DuC.grow {G G' : Hp} {w0 w1 w2 w3 w4 w5 : Value} {d : Dv} (hg : Grow G G') (h : DuC G w0 w1 w2 w3 w4 w5 d) : DuC G' w0 w1 w2 w3 w4 w5 d :=
  ⟨h.a0.grow hg, h.a1.grow hg, h.n0.grow hg, h.n1.grow hg, h.ps.grow hg, h.qs.grow hg⟩
def DuV (G : Hp) (v : Value) (d : Dv) : Prop := ∃ w0 w1 w2 w3 w4 w5, v = .agg #[I d.m, w0, w1, w2, w3, w4, w5, U d.rule, I d.need, I d.quorum, U d.tie] ∧ DuC G w0 w1 w2 w3 w4 w5 d
def duRd : Rd Dv := ⟨DuV, fun {_ _ x y} ⟨w0, w1, w2, w3, w4, w5, h, h1⟩ ⟨v0, v1, v2, v3, v4, v5, h', h1'⟩ => by
    subst h
    simp only [Value.agg.injEq, Array.mk.injEq, List.cons.injEq, Value.int.injEq, true_and, and_true] at h'
    obtain ⟨e1, e2, e3, e4, e5, e6, e7, e8, e9, e10, e11⟩ := h'
    subst e2; subst e3; subst e4; subst e5; subst e6; subst e7
    have k0 := h1.a0.uniq h1'.a0
    have k1 := h1.a1.uniq h1'.a1
    have k2 := h1.n0.uniq h1'.n0
    have k3 := h1.n1.uniq h1'.n1
    have k4 := h1.ps.uniq h1'.ps
    have k5 := h1.qs.uniq h1'.qs
    cases x; cases y; simp_all, fun hg ⟨w0, w1, w2, w3, w4, w5, h, h1⟩ => ⟨w0, w1, w2, w3, w4, w5, h, h1.grow hg⟩⟩
theorem DuC.v {G : Hp} {w0 w1 w2 w3 w4 w5 : Value} {d : Dv} (h : DuC G w0 w1 w2 w3 w4 w5 d) (hf : fewF d = true) : DvC G w0 w1 w2 w3 w4 w5 d := by
  simp only [fewF, Bool.and_eq_true, decide_eq_true_eq] at hf
  obtain ⟨⟨⟨⟨⟨h1, h2⟩, h3⟩, h4⟩, h5⟩, h6⟩ := hf
  exact ⟨h.a0.v (by omega), h.a1.v (by omega), h.n0.v (by omega), h.n1.v (by omega), h.ps.v (by omega), h.qs.v (by omega)⟩
theorem DuV.v {G : Hp} {v : Value} {d : Dv} (h : DuV G v d) (hf : fewF d = true) : DvV G v d := by
  obtain ⟨w0, w1, w2, w3, w4, w5, e, h⟩ := h
  exact ⟨w0, w1, w2, w3, w4, w5, e, h.v hf⟩
theorem few20u : Sound Try.prog 20 id (gsca (args1 duRd fun _ => True) fun d v => v = .bool (fewF d)) := by
  refine comp20.gsca (Tab.nil _) (fun args G s h => ?_) (fun args G d h => ?_)
  · obtain ⟨v, rfl, _⟩ := h; simp
  · obtain ⟨u, rfl, ⟨w0, w1, w2, w3, w4, w5, rfl, hd⟩, _⟩ := h
    obtain ⟨x0, y0, z0, rfl, la0⟩ := id hd.a0
    obtain ⟨x1, y1, z1, rfl, la1⟩ := id hd.a1
    obtain ⟨x2, y2, z2, rfl, ln0⟩ := id hd.n0
    obtain ⟨x3, y3, z3, rfl, ln1⟩ := id hd.n1
    obtain ⟨x4, y4, z4, rfl, lps⟩ := id hd.ps
    obtain ⟨x5, y5, z5, rfl, lqs⟩ := id hd.qs
    have e0 := la0.len
    have e1 := la1.len
    have e2 := ln0.len
    have e3 := ln1.len
    have e4 := lps.len
    have e5 := lqs.len
    (conv => whnf)
    refine LoopP.of { α := Nat, fr := fun x => [(1, .c (.ptr 0 0)), (3, .v (I x))], H := fun _ => [(0, .cells .anon (DVC d x0 x1 x2 x3 x4 x5 y0 z0 y1 z1 y2 z2 y3 z3 y4 z4 y5 z5) 27)], ok := fun i _ => i ≤ 2 ∧ (0 < i → y0 ≤ 45 ∧ y2 ≤ 45) ∧ (1 < i → y1 ≤ 45 ∧ y3 ≤ 45), m := fun x => 2 - x }
      0 (HeadP.of [] ⟨rfl, rfl, trivial⟩ ⟨rfl, trivial⟩) ⟨Nat.zero_le _, fun h => by omega, fun h => by omega⟩ (fun _ => ⟨rfl, rfl⟩) (fun (i : Nat) G' hG hx => W.mk ?_)
    obtain ⟨hi, hx1, hx2⟩ := hx
    dsimp only
    (conv => whnf)
    refine IteP.mk (fun hlt => W.mk ?_) (fun hge => W.mk ?_) <;> (conv => whnf)
    · rcases (by omega : i = 0 ∨ i = 1) with rfl | rfl
      · repeat' (refine OblP.mk ?_ (W.mk ?_); (first | trivial | omega | (simp only [inR]; omega) | exact Nat.le_of_ble_eq_true (by rfl) | exact SlR.some (by assumption) (by omega)); (conv => whnf))
        refine EqsP.mk ⟨[.val (.slice x0 y0 z0)], rfl, rfl, W.mk ?_⟩
        (conv => whnf)
        refine IteP.mk (fun h1 => W.mk ?_) (fun h1 => W.mk ?_) <;> (conv => whnf)
        · refine FinP.mk ?_
          refine congrArg Value.bool ?_
          have : decide (d.a0.length ≤ 45) = false := by simp only [decide_eq_false_iff_not]; omega
          simp [fewF, this]
        · repeat' (refine OblP.mk ?_ (W.mk ?_); (first | trivial | omega | (simp only [inR]; omega) | exact Nat.le_of_ble_eq_true (by rfl) | exact SlR.some (by assumption) (by omega)); (conv => whnf))
          refine EqsP.mk ⟨[.val (.slice x2 y2 z2)], rfl, rfl, W.mk ?_⟩
          (conv => whnf)
          refine IteP.mk (fun h2 => W.mk ?_) (fun h2 => W.mk ?_) <;> (conv => whnf)
          · refine FinP.mk ?_
            refine congrArg Value.bool ?_
            have : decide (d.n0.length ≤ 45) = false := by simp only [decide_eq_false_iff_not]; omega
            simp [fewF, this]
          · repeat' (refine OblP.mk ?_ (W.mk ?_); (first | trivial | omega | (simp only [inR]; omega) | exact Nat.le_of_ble_eq_true (by rfl) | exact SlR.some (by assumption) (by omega)); (conv => whnf))
            refine RoundP.of 1 (HeadP.of [] ⟨rfl, rfl, trivial⟩ ⟨rfl, trivial⟩) ⟨by show (1 : Nat) ≤ 2; omega, fun _ => by omega, fun h => by exact absurd h (by show ¬ (1 < 1); omega)⟩ (by simp only; omega)
      · repeat' (refine OblP.mk ?_ (W.mk ?_); (first | trivial | omega | (simp only [inR]; omega) | exact Nat.le_of_ble_eq_true (by rfl) | exact SlR.some (by assumption) (by omega)); (conv => whnf))
        refine EqsP.mk ⟨[.val (.slice x1 y1 z1)], rfl, rfl, W.mk ?_⟩
        (conv => whnf)
        have hx1 := hx1 (by omega)
        refine IteP.mk (fun h1 => W.mk ?_) (fun h1 => W.mk ?_) <;> (conv => whnf)
        · refine FinP.mk ?_
          refine congrArg Value.bool ?_
          have : decide (d.a1.length ≤ 45) = false := by simp only [decide_eq_false_iff_not]; omega
          simp [fewF, this]
        · repeat' (refine OblP.mk ?_ (W.mk ?_); (first | trivial | omega | (simp only [inR]; omega) | exact Nat.le_of_ble_eq_true (by rfl) | exact SlR.some (by assumption) (by omega)); (conv => whnf))
          refine EqsP.mk ⟨[.val (.slice x3 y3 z3)], rfl, rfl, W.mk ?_⟩
          (conv => whnf)
          refine IteP.mk (fun h2 => W.mk ?_) (fun h2 => W.mk ?_) <;> (conv => whnf)
          · refine FinP.mk ?_
            refine congrArg Value.bool ?_
            have : decide (d.n1.length ≤ 45) = false := by simp only [decide_eq_false_iff_not]; omega
            simp [fewF, this]
          · repeat' (refine OblP.mk ?_ (W.mk ?_); (first | trivial | omega | (simp only [inR]; omega) | exact Nat.le_of_ble_eq_true (by rfl) | exact SlR.some (by assumption) (by omega)); (conv => whnf))
            refine RoundP.of 2 (HeadP.of [] ⟨rfl, rfl, trivial⟩ ⟨rfl, trivial⟩) ⟨by show (2 : Nat) ≤ 2; omega, fun _ => hx1, fun _ => by omega⟩ (by simp only; omega)
    · have : i = 2 := by omega
      subst this
      have hx1 := hx1 (by omega)
      have hx2 := hx2 (by omega)
      have d0 : decide (d.a0.length ≤ 45) = true := by simp only [decide_eq_true_eq]; omega
      have d1 : decide (d.a1.length ≤ 45) = true := by simp only [decide_eq_true_eq]; omega
      have d2 : decide (d.n0.length ≤ 45) = true := by simp only [decide_eq_true_eq]; omega
      have d3 : decide (d.n1.length ≤ 45) = true := by simp only [decide_eq_true_eq]; omega
      refine IteP.mk (fun h1 => W.mk ?_) (fun h1 => W.mk ?_) <;> (conv => whnf)
      · have d4 : decide (d.ps.length ≤ 12) = true := by simp only [decide_eq_true_eq]; omega
        refine IteP.mk (fun h2 => W.mk ?_) (fun h2 => W.mk ?_) <;> (conv => whnf) <;> refine FinP.mk ?_ <;> refine congrArg Value.bool ?_
        · have d5 : decide (d.qs.length ≤ 12) = true := by simp only [decide_eq_true_eq]; omega
          simp [fewF, d0, d1, d2, d3, d4, d5]
        · have d5 : decide (d.qs.length ≤ 12) = false := by simp only [decide_eq_false_iff_not]; omega
          simp [fewF, d5]
      · refine FinP.mk ?_
        refine congrArg Value.bool ?_
        have d4 : decide (d.ps.length ≤ 12) = false := by simp only [decide_eq_false_iff_not]; omega
        simp [fewF, d4]
end Go.Proofs.Ytgpfejgohclheaa

namespace Go.Proofs.Ytgpfejgohclheaa
open Go.Pal
theorem trK_mem {may : Nat → List Int} : ∀ r m f g, (∀ j, m ≤ j → j < m + r → g j ∈ may j) → (∀ j, j < m ∨ m + r ≤ j → g j = f j) → g ∈ trK may r m f
  | 0, m, f, g, _, h2 => by
    simp only [trK, List.mem_singleton]
    funext j
    exact h2 j (by omega)
  | r + 1, m, f, g, h1, h2 => by
    simp only [trK, List.mem_flatMap]
    refine ⟨g m, h1 m (by omega) (by omega), trK_mem r (m + 1) _ g (fun j a b => h1 j (by omega) (by omega)) (fun j hj => ?_)⟩
    by_cases hjm : j = m
    · subst hjm; rw [if_pos rfl]
    · rw [if_neg hjm]; exact h2 j (by omega)
theorem tru_mem {d : Dv} (hr : rightD d = true) {g : Nat → Int} : g ∈ truL (lookF d) ↔ (∀ k, k < d.m.toNat → g k ∈ votesF d k) ∧ ∀ k, d.m.toNat ≤ k → g k = 0 := by
  have hm := right_m hr
  constructor
  · intro h
    obtain ⟨h1, h2⟩ := trK_spec _ _ _ _ h
    refine ⟨fun k hk => ?_, fun k hk => h2 k (.inr (by show 0 + d.m.toNat ≤ k; omega))⟩
    have := h1 k (Nat.zero_le _) (by show k < 0 + d.m.toNat; omega)
    rwa [mayL, may_look hm.2 hk] at this
  · rintro ⟨h1, h2⟩
    refine trK_mem _ _ _ _ (fun j _ hj => ?_) (fun j hj => ?_)
    · have hj : j < 0 + d.m.toNat := hj
      rw [mayL, may_look hm.2 (by omega)]
      exact h1 j (by omega)
    · have hj : j < 0 ∨ 0 + d.m.toNat ≤ j := hj
      exact h2 j (by omega)

/-- A truth, as it is counted. -/
def Fit (d : Dv) (t : List Int) : Prop := (t.length : Int) = d.m ∧ ∀ k, k < t.length → t.getD k 0 ∈ votesF d k
theorem Fit.of {d : Dv} {t : List Int} (hr : rightD d = true) : ofF d (trT fun k => t.getD k 0) = ofF d t :=
  ofF_ext hr fun k hk => by have := right_m hr; exact trT_get (by omega)
theorem Fit.vote {d : Dv} {t : List Int} (h : Fit d t) : ∀ v ∈ t, v = 0 ∨ v = 1 ∨ v = 2 := fun v hv => by
  obtain ⟨k, hk, rfl⟩ := List.getElem_of_mem hv
  have := h.2 k hk
  rw [List.getD_eq_getElem?_getD, List.getElem?_eq_getElem hk] at this
  exact votes_012 this
theorem fault_clash {d : Dv} (h : faultF d = 0) : rightD d = true ∧ clashF d < 0 := by
  refine ⟨fault_right h, ?_⟩
  rw [faultF, fault_right h] at h
  simpa using h
theorem tru_fit {d : Dv} (hr : rightD d = true) {f : Nat → Int} (h : f ∈ truL (lookF d)) : Fit d ((List.range d.m.toNat).map f) := by
  have hm := right_m hr
  obtain ⟨h1, _⟩ := (tru_mem hr).1 h
  refine ⟨by simp; omega, fun k hk => ?_⟩
  have hk : k < d.m.toNat := by simpa using hk
  rw [List.getD_eq_getElem?_getD]
  simp [hk]
  exact h1 k hk
end Go.Proofs.Ytgpfejgohclheaa

namespace Go.Proofs.Ytgpfejgohclheaa
open Go.Pal Go.ChangeShapes

theorem SlR.map {α β : Type} {k : Nat} {R : Hp → List Value → α → Prop} {R' : Hp → List Value → β → Prop} {G : Hp} {a : Option Addr} {n c : Nat} {l : List α} (f : α → β) (hf : ∀ cs x, R G cs x → R' G cs (f x)) (h : SlR k R G a n c l) : SlR k R' G a n c (l.map f) :=
  ⟨by rw [List.length_map, h.len], h.cap, h.some, fun i hi => by
    obtain ⟨cs, h1, h2, h3⟩ := h.at_ i (by simpa using hi)
    exact ⟨cs, h1, h2, by rw [List.getElem_map]; exact hf _ _ h3⟩⟩
theorem udl3 : Try.prog.underlying 3 = some (.int .i64) := by kernel_rfl
theorem udl5 : Try.prog.underlying 5 = some (.int .u8) := by kernel_rfl
theorem o3 : Opens Try.prog 3 (cdInt .i64) := .int udl3
theorem o5 : Opens Try.prog 5 (cdInt .u8) := .int udl5
theorem o4 : Opens Try.prog 4 cdBool := .bool (by kernel_rfl)
theorem o22 : Opens Try.prog 22 (cdSl (cdInt .i64)) := .slice (e := 3) (by kernel_rfl) o3 (by decide)
abbrev cdTwo := cdPair (cdSl (cdInt .i64)) (cdPair (cdSl (cdInt .i64)) cdUnit)
theorem o23 : Opens Try.prog 23 cdTwo := .two (e := 22) (by kernel_rfl) o22 (by kernel_rfl)
abbrev cdPr := cdPair (cdInt .i64) (cdPair (cdInt .i64) cdUnit)
theorem o82 : Opens Try.prog 82 cdPr := .struct (fs := [(3, 0), (3, 1)]) (by kernel_rfl) (by kernel_rfl) (OpensF.cons o3 (OpensF.cons o3 OpensF.nil))
theorem o83 : Opens Try.prog 83 cdPr := .struct (fs := [(3, 0), (3, 1)]) (by kernel_rfl) (by kernel_rfl) (OpensF.cons o3 (OpensF.cons o3 OpensF.nil))
theorem o24 : Opens Try.prog 24 (cdSl cdPr) := .slice (e := 82) (by kernel_rfl) o82 (by decide)
theorem o25 : Opens Try.prog 25 (cdSl cdPr) := .slice (e := 83) (by kernel_rfl) o83 (by decide)
abbrev cdDv := cdPair (cdInt .i64) (cdPair cdTwo (cdPair cdTwo (cdPair (cdSl cdPr) (cdPair (cdSl cdPr) (cdPair (cdInt .u8) (cdPair (cdInt .i64) (cdPair (cdInt .i64) (cdPair (cdInt .u8) cdUnit))))))))
theorem o27 : Opens Try.prog 27 cdDv := .struct (fs := [(3, 0), (23, 1), (23, 3), (24, 5), (25, 6), (5, 7), (3, 8), (3, 9), (5, 10)]) (by kernel_rfl) (by kernel_rfl) (OpensF.cons o3 (OpensF.cons o23 (OpensF.cons o23 (OpensF.cons o24 (OpensF.cons o25 (OpensF.cons o5 (OpensF.cons o3 (OpensF.cons o3 (OpensF.cons o5 OpensF.nil)))))))))
theorem pr_cd {G : Hp} {cs : List Value} {x} (h : cdPr.R G cs x) : prE.R G cs (x.1, x.2.1) := by
  obtain ⟨_, _, rfl, ⟨rfl, _⟩, _, _, rfl, ⟨rfl, _⟩, rfl⟩ := h; rfl
theorem dv_val {G : Hp} {v : Value} (h : ∃ x, VR cdDv true G v x) : ∃ d, DuV G v d ∧ rul d := by
  obtain ⟨x, cs, rfl, _, _, e, ⟨rfl, _⟩, _, _, rfl, ⟨_, _, rfl, ⟨a0, n0, c0, rfl, h0, _⟩, _, _, rfl, ⟨a1, n1, c1, rfl, h1, _⟩, rfl⟩, _, _, rfl, ⟨_, _, rfl, ⟨a2, n2, c2, rfl, h2, _⟩, _, _, rfl, ⟨a3, n3, c3, rfl, h3, _⟩, rfl⟩,
    _, _, rfl, ⟨a4, n4, c4, rfl, h4, _⟩, _, _, rfl, ⟨a5, n5, c5, rfl, h5, _⟩, _, _, rfl, ⟨rfl, hr⟩, _, _, rfl, ⟨rfl, _⟩, _, _, rfl, ⟨rfl, _⟩, _, _, rfl, ⟨rfl, _⟩, rfl⟩ := h
  have hi : ∀ (cs : List Value) x, (cdInt .i64).R G cs x → intE.R G cs (id x) := fun _ _ h => h.1
  refine ⟨⟨x.1, x.2.1.1, x.2.1.2.1, x.2.2.1.1, x.2.2.1.2.1, x.2.2.2.1.map fun p => (p.1, p.2.1), x.2.2.2.2.1.map fun p => (p.1, p.2.1), x.2.2.2.2.2.1, x.2.2.2.2.2.2.1, x.2.2.2.2.2.2.2.1, x.2.2.2.2.2.2.2.2.1⟩,
    ⟨.slice a0 n0 c0, .slice a1 n1 c1, .slice a2 n2 c2, .slice a3 n3 c3, .slice a4 n4 c4, .slice a5 n5 c5, ?_, ⟨a0, n0, c0, rfl, ?_⟩, ⟨a1, n1, c1, rfl, ?_⟩, ⟨a2, n2, c2, rfl, ?_⟩, ⟨a3, n3, c3, rfl, ?_⟩, ⟨a4, n4, c4, rfl, SlR.map _ (fun _ _ h => pr_cd h) h4⟩, ⟨a5, n5, c5, rfl, SlR.map _ (fun _ _ h => pr_cd h) h5⟩⟩, ?_⟩
  · simp at e
    exact congrArg Value.agg (Array.toList_inj.1 e)
  · have := SlR.map id hi h0; rwa [List.map_id] at this
  · have := SlR.map id hi h1; rwa [List.map_id] at this
  · have := SlR.map id hi h2; rwa [List.map_id] at this
  · have := SlR.map id hi h3; rwa [List.map_id] at this
  · simp only [inR] at hr
    exact ⟨hr.1, by have := hr.2; show _ ≤ _; omega⟩
theorem ownK : ownKnob Try.checked.prog.godebug = none := by kernel_rfl
theorem laidK : laidOutB Try.checked.prog = true := by kernel_rfl
theorem boolK : Try.checked.prog.underlying 4 = some .bool := by kernel_rfl
abbrev dv0 : Value := .agg #[.int .i64 0, .slice none 0 0, .slice none 0 0, .slice none 0 0, .slice none 0 0, .slice none 0 0, .slice none 0 0, .int .u8 0, .int .i64 0, .int .i64 0, .int .u8 0]
end Go.Proofs.Ytgpfejgohclheaa

namespace Go.Proofs.Ytgpfejgohclheaa
open Go.Pal
def C3.two (c : C3) : Int := c.c1 + c.c2
end Go.Proofs.Ytgpfejgohclheaa

namespace Go.Proofs.Ytgpfejgohclheaa
open Go.Pal
def toldF (l : List Int) (m : Int) (b : Bool) : List Int := l.filter (fun x => decide (x < m)) ++ (if b then [m] else []) ++ l.filter (fun x => decide (m < x))
theorem told_mem {l : List Int} {m : Int} {b : Bool} {y : Int} : y ∈ toldF l m b ↔ if y = m then b = true else y ∈ l := by
  simp only [toldF, List.mem_append, List.mem_filter, decide_eq_true_eq]
  by_cases h : y = m
  · subst h; rw [if_pos rfl]; cases b <;> simp
  · rw [if_neg h]
    have hb : ¬ y ∈ (if b = true then [m] else []) := by cases b <;> simp [h]
    constructor
    · rintro ((⟨h1, _⟩ | h1) | ⟨h1, _⟩)
      · exact h1
      · exact absurd h1 hb
      · exact h1
    · intro h1
      rcases (by omega : y < m ∨ m < y) with h2 | h2
      · exact .inl (.inl ⟨h1, h2⟩)
      · exact .inr ⟨h1, h2⟩
theorem told_has {l : List Int} {m : Int} {b : Bool} {y : Int} : (toldF l m b).contains y = if y = m then b else l.contains y := by
  rw [Bool.eq_iff_iff, List.contains_iff_mem, told_mem]
  split
  · rfl
  · rw [List.contains_iff_mem]
theorem gd0 {l : List Int} {k : Nat} (h : k < l.length) : l.getD k 0 = l[k] := by simp [h]
theorem ris_pw {l : List Int} : risF l = true ↔ l.Pairwise (· < ·) := by
  rw [List.pairwise_iff_getElem]
  constructor
  · intro h
    have h : ∀ k, k + 1 < l.length → l.getD k 0 < l.getD (k + 1) 0 := by
      intro k hk
      simp only [risF, List.all_eq_true, List.mem_range, decide_eq_true_eq] at h
      exact h k (by omega)
    intro i j hi hj hij
    have key : ∀ n, ∀ hn : i + n + 1 < l.length, l[i] < l[i + n + 1] := by
      intro n
      induction n with
      | zero => intro hn; have := h i hn; rwa [gd0 (by omega), gd0 hn] at this
      | succ n ih =>
        intro hn
        have h1 := ih (by omega)
        have h2 := h (i + n + 1) (by omega)
        rw [gd0 (by omega), gd0 (by omega)] at h2
        exact Int.lt_trans h1 h2
    have := key (j - i - 1) (by omega)
    have e : i + (j - i - 1) + 1 = j := by omega
    simpa only [e] using this
  · intro h
    exact ris_true fun k hk => by rw [gd0 (by omega), gd0 hk]; exact h _ _ _ _ (by omega)
theorem told_pw {l : List Int} {m : Int} {b : Bool} (h : l.Pairwise (· < ·)) : (toldF l m b).Pairwise (· < ·) := by
  rw [toldF, List.pairwise_append, List.pairwise_append]
  refine ⟨⟨h.filter _, by cases b <;> simp, fun x hx y hy => ?_⟩, h.filter _, fun x hx y hy => ?_⟩
  · have h1 := (List.mem_filter.1 hx).2
    simp only [decide_eq_true_eq] at h1
    cases b
    · simp at hy
    · simp at hy; subst hy; exact h1
  · have h2 := (List.mem_filter.1 hy).2
    simp only [decide_eq_true_eq] at h2
    rcases List.mem_append.1 hx with hx | hx
    · have h1 := (List.mem_filter.1 hx).2
      simp only [decide_eq_true_eq] at h1
      omega
    · cases b
      · simp at hx
      · simp at hx; subst hx; exact h2
theorem inF_iff {x a b : Int} : inF x a b = true ↔ a ≤ x ∧ x ≤ b := by simp [inF]
theorem list_iff {m : Int} {l : List Int} : listF m l = true ↔ (∀ x ∈ l, 0 ≤ x ∧ x < m) ∧ l.Pairwise (· < ·) := by
  rw [listF, Bool.and_eq_true, ris_pw, List.all_eq_true]
  constructor
  · rintro ⟨h1, h2⟩; exact ⟨fun x hx => by have := inF_iff.1 (h1 x hx); omega, h2⟩
  · rintro ⟨h1, h2⟩; exact ⟨fun x hx => inF_iff.2 (by have := h1 x hx; omega), h2⟩
theorem told_list {m x : Int} {l : List Int} {b : Bool} (h : listF m l = true) (h0 : 0 ≤ x) (h1 : x < m) : listF m (toldF l x b) = true := by
  obtain ⟨h2, h3⟩ := list_iff.1 h
  refine list_iff.2 ⟨fun y hy => ?_, told_pw h3⟩
  have := told_mem.1 hy
  split at this
  · omega
  · exact h2 y this
/-- A member's vote, on both lists or on none. -/
def ansD (t : List Int) (d : Dv) (x : Int) : Dv := { d with a0 := toldF d.a0 x (decide (t.getD x.toNat 0 = 1)), a1 := toldF d.a1 x (decide (t.getD x.toNat 0 = 1)), n0 := toldF d.n0 x (decide (t.getD x.toNat 0 = 2)), n1 := toldF d.n1 x (decide (t.getD x.toNat 0 = 2)) }
theorem ans_right {t : List Int} {d : Dv} {x : Int} (h : rightD d = true) (h0 : 0 ≤ x) (hm : x < d.m) : rightD (ansD t d x) = true := by
  simp only [rightD, Bool.and_eq_true] at h ⊢
  obtain ⟨⟨⟨⟨⟨⟨h1, h2⟩, h3⟩, h4⟩, h5⟩, h6⟩, h7⟩ := h
  exact ⟨⟨⟨⟨⟨⟨h1, told_list h2 h0 hm⟩, told_list h3 h0 hm⟩, told_list h4 h0 hm⟩, told_list h5 h0 hm⟩, h6⟩, h7⟩
theorem ans_ona {t : List Int} {d : Dv} {x y : Int} : onF (ansD t d x).a y = if y = x then (if t.getD x.toNat 0 = 1 then 2 else 0) else onF d.a y := by
  show b2 ((toldF d.a0 x _).contains y) + b2 ((toldF d.a1 x _).contains y) = _
  rw [told_has, told_has]
  by_cases h : y = x
  · rw [if_pos h, if_pos h, if_pos h]
    by_cases h1 : t.getD x.toNat 0 = 1
    · rw [if_pos h1, decide_eq_true h1]; rfl
    · rw [if_neg h1, decide_eq_false h1]; rfl
  · rw [if_neg h, if_neg h, if_neg h]; rfl
theorem ans_onn {t : List Int} {d : Dv} {x y : Int} : onF (ansD t d x).n y = if y = x then (if t.getD x.toNat 0 = 2 then 2 else 0) else onF d.n y := by
  show b2 ((toldF d.n0 x _).contains y) + b2 ((toldF d.n1 x _).contains y) = _
  rw [told_has, told_has]
  by_cases h : y = x
  · rw [if_pos h, if_pos h, if_pos h]
    by_cases h1 : t.getD x.toNat 0 = 2
    · rw [if_pos h1, decide_eq_true h1]; rfl
    · rw [if_neg h1, decide_eq_false h1]; rfl
  · rw [if_neg h, if_neg h, if_neg h]; rfl
theorem ans_votes {t : List Int} {d : Dv} {x y : Int} (ht : t.getD x.toNat 0 = 0 ∨ t.getD x.toNat 0 = 1 ∨ t.getD x.toNat 0 = 2) : votesF (ansD t d x) y = if y = x then [t.getD x.toNat 0] else votesF d y := by
  simp only [votesF, mayF, ans_ona, ans_onn]
  by_cases h : y = x
  · simp only [if_pos h]
    rcases ht with h | h | h <;> rw [h] <;> decide
  · simp only [if_neg h]
theorem ans_cla {t : List Int} {d : Dv} {x : Int} {k : Nat} (h : cla d k = false) : cla (ansD t d x) k = false := by
  simp only [cla, ans_ona, ans_onn]
  by_cases h1 : (k : Int) = x
  · simp only [if_pos h1]
    by_cases h2 : t.getD x.toNat 0 = 1
    · rw [h2]; decide
    · rw [if_neg h2]; simp
  · simp only [if_neg h1]; exact h
theorem fault_iff {d : Dv} : faultF d = 0 ↔ rightD d = true ∧ ∀ k, k < d.m.toNat → cla d k = false := by
  constructor
  · intro h
    obtain ⟨hr, hc⟩ := fault_clash h
    refine ⟨hr, fun k hk => ?_⟩
    unfold clashF at hc
    split at hc
    · omega
    · rename_i hn
      rw [List.find?_eq_none] at hn
      have := hn k (List.mem_range.2 hk)
      simpa using this
  · rintro ⟨hr, hc⟩
    have : (List.range d.m.toNat).find? (cla d) = none := by
      rw [List.find?_eq_none]
      intro k hk
      rw [hc k (List.mem_range.1 hk)]; simp
    rw [faultF, hr, clashF, this]; rfl
theorem cntK_votes (d : Dv) (m : Int) : cntK d m 3 = (votesF d m).length := by
  simp only [cntK, votesF, List.length_append]
  cases mayF d m (0 : Nat) <;> cases mayF d m (1 : Nat) <;> cases mayF d m (2 : Nat) <;> simp_all [b2]
theorem dbt_votes (d : Dv) (m : Nat) : dbt d m = decide (1 < (votesF d m).length) := by
  rw [dbt, cntK_votes]
  congr 1
  rw [eq_iff_iff]; omega
theorem doubts_len (d : Dv) : (doubtsF d).length = (List.range d.m.toNat).countP (dbt d) := by
  rw [doubtsF, dK, List.length_map, List.countP_eq_length_filter]
theorem ans_open {t : List Int} {d : Dv} {x : Int} (ho : openF d = 0) (h0 : 0 ≤ x) (hm : x < d.m) (ht : t.getD x.toNat 0 = 0 ∨ t.getD x.toNat 0 = 1 ∨ t.getD x.toNat 0 = 2) : openF (ansD t d x) = 0 := by
  obtain ⟨hf, h8⟩ := open_fault ho
  obtain ⟨hr, hc⟩ := fault_iff.1 hf
  have hf' : faultF (ansD t d x) = 0 := fault_iff.2 ⟨ans_right hr h0 hm, fun k hk => ans_cla (hc k hk)⟩
  have hl : (doubtsF (ansD t d x)).length ≤ (doubtsF d).length := by
    rw [doubts_len, doubts_len]
    refine List.countP_mono_left fun k _ hk => ?_
    rw [dbt_votes, ans_votes ht] at hk
    rw [dbt_votes]
    split at hk
    · simp at hk
    · exact hk
  rw [openF, if_neg (by omega), hf']
/-- A division after the answers of some members. -/
structure Ansd (t : List Int) (d0 d : Dv) (q : List Int) : Prop where
  same : d = { d0 with a0 := d.a0, a1 := d.a1, n0 := d.n0, n1 := d.n1 }
  op : openF d = 0
  vt : ∀ y, votesF d y = if y ∈ q then [t.getD y.toNat 0] else votesF d0 y
theorem Ansd.nil {t : List Int} {d : Dv} (h : openF d = 0) : Ansd t d d [] := ⟨rfl, h, fun y => by simp⟩
theorem Ansd.snoc {t : List Int} {d0 d : Dv} {q : List Int} {x : Int} (h : Ansd t d0 d q) (h0 : 0 ≤ x) (hm : x < d0.m) (ht : t.getD x.toNat 0 = 0 ∨ t.getD x.toNat 0 = 1 ∨ t.getD x.toNat 0 = 2) : Ansd t d0 (ansD t d x) (q ++ [x]) := by
  have em : d.m = d0.m := by rw [h.same]
  refine ⟨?_, ans_open h.op h0 (by omega) ht, fun y => ?_⟩
  · have := h.same
    unfold ansD
    generalize d.a0 = a at *
    generalize d.a1 = a at *
    generalize d.n0 = a at *
    generalize d.n1 = a at *
    subst this
    rfl
  · rw [ans_votes ht, h.vt]
    by_cases hy : y = x
    · subst hy; simp
    · simp [hy]
end Go.Proofs.Ytgpfejgohclheaa

namespace Go.Proofs.Ytgpfejgohclheaa
open Go.Pal
set_option maxRecDepth 100000
end Go.Proofs.Ytgpfejgohclheaa

namespace Go.Proofs.Ytgpfejgohclheaa
open Go.Pal
set_option maxRecDepth 100000
theorem Sound.joinR {P : Program} {f : FuncId} {sh : List Value → List Value} {ι α : Type} {Ri : ι → GRel α} {qi : ι → α → Value → Hp → Prop} {R : GRel α} {q : α → Value → Hp → Prop} (h : ∀ i, Sound P f sh (grel (Ri i) (qi i))) (oi : ∀ i, GOk (Ri i)) (o : GOk R) (mq : ∀ x v G G', Grow G G' → q x v G → q x v G') (hp : ∀ args G x, R args G x → ∃ i, Ri i args G x ∧ ∀ v G', qi i x v G' → q x v G') : Sound P f sh (grel R q) := by
  refine ⟨fun args v G G' hg ⟨x, h1, h2⟩ => ⟨x, o.grow _ _ _ _ hg h1, mq _ _ _ _ hg h2⟩, fun args G W hs ⟨x, hx⟩ => ?_⟩
  obtain ⟨i, hi, hq⟩ := hp args G x hx
  refine ((h i).2 args G W hs ⟨x, hi⟩).mono ?_
  rintro e W' ⟨v, G', rfl, ⟨y, hy, hqy⟩, hg, h3, h4, h5⟩
  have : y = x := (oi i).uniq _ _ _ _ hy ((oi i).grow _ _ _ _ hg hi)
  subst this
  exact ⟨v, G', rfl, ⟨_, o.grow _ _ _ _ hg hx, hq _ _ hqy⟩, hg, h3, h4, h5⟩
abbrev hV (x : Hdr) : Value := .slice x.1 x.2.1 x.2.2
def hdE : El Hdr := ⟨1, fun h => [hV h], fun {x y} h => by
    obtain ⟨x1, x2, x3⟩ := x
    obtain ⟨y1, y2, y3⟩ := y
    simp only [hV, List.cons.injEq, Value.slice.injEq, and_true] at h
    obtain ⟨rfl, rfl, rfl⟩ := h; rfl, fun _ => rfl, fun p v hv => by
    simp only [List.mem_singleton] at hv
    rw [hv]; rfl⟩
/-- Headers and the rows that they stand for. -/
def RRs (G : Hp) (hs : List Hdr) (ts : List (List Int)) : Prop := hs.length = ts.length ∧ ∀ (i : Nat) (h : Hdr) (t : List Int), hs[i]? = some h → ts[i]? = some t → SlV u8E G (hV h) t
def RRV (G : Hp) (v : Value) (ts : List (List Int)) : Prop := ∃ hs, SlV hdE G v hs ∧ RRs G hs ts
theorem RRs.nil {G : Hp} : RRs G [] [] := ⟨rfl, fun i h t e => by simp at e⟩
theorem RRs.one {G : Hp} {h : Hdr} {t : List Int} (e : SlV u8E G (hV h) t) : RRs G [h] [t] := ⟨rfl, fun i h' t' e1 e2 => by
  cases i with
  | zero => simp at e1 e2; subst e1; subst e2; exact e
  | succ i => simp at e1⟩
theorem RRs.grow {G G' : Hp} {hs : List Hdr} {ts : List (List Int)} (hg : Grow G G') (e : RRs G hs ts) : RRs G' hs ts := ⟨e.1, fun i h t e1 e2 => (e.2 i h t e1 e2).grow hg⟩
theorem RRs.app {G : Hp} {hs hs' : List Hdr} {ts ts' : List (List Int)} (e : RRs G hs ts) (e' : RRs G hs' ts') : RRs G (hs ++ hs') (ts ++ ts') := by
  refine ⟨by rw [List.length_append, List.length_append, e.1, e'.1], fun i h t e1 e2 => ?_⟩
  by_cases hi : i < hs.length
  · rw [List.getElem?_append_left hi] at e1
    rw [List.getElem?_append_left (by rw [← e.1]; exact hi)] at e2
    exact e.2 i h t e1 e2
  · rw [List.getElem?_append_right (by omega)] at e1
    rw [List.getElem?_append_right (by rw [← e.1]; omega), ← e.1] at e2
    exact e'.2 _ h t e1 e2
theorem RRs.uniq {G : Hp} {hs : List Hdr} {ts ts' : List (List Int)} (e : RRs G hs ts) (e' : RRs G hs ts') : ts = ts' := by
  apply List.ext_getElem (by rw [← e.1, e'.1])
  intro i h1 h2
  have hi : i < hs.length := by rw [e.1]; exact h1
  exact (e.2 i hs[i] ts[i] (List.getElem?_eq_getElem hi) (List.getElem?_eq_getElem h1)).uniq (e'.2 i hs[i] ts'[i] (List.getElem?_eq_getElem hi) (List.getElem?_eq_getElem h2))
/-! ### What it computes -/
def trR (d : Dv) : Nat → List Int → List (List Int)
  | 0, b => [b]
  | r + 1, b => (votesF d b.length).flatMap fun v => trR d r (b ++ [v])
def voK (d : Dv) (m : Int) (v : Nat) : List Int := ((List.range v).filter fun i => mayF d m (i : Nat)).map Int.ofNat
theorem voK_succ (d : Dv) (m : Int) (v : Nat) : voK d m (v + 1) = if mayF d m v then voK d m v ++ [(v : Int)] else voK d m v := by
  simp only [voK, List.range_succ, List.filter_append, List.map_append]
  cases h : mayF d m v <;> simp [List.filter, h]
theorem voK_votes (d : Dv) (m : Int) : voK d m 3 = votesF d m := by
  rw [voK_succ, voK_succ, voK_succ]
  have h0 : voK d m 0 = [] := rfl
  rw [h0, votesF]
  show (if mayF d m 2 = true then (if mayF d m 1 = true then (if mayF d m 0 = true then [] ++ [(0 : Int)] else []) ++ [(1 : Int)] else (if mayF d m 0 = true then [] ++ [(0 : Int)] else [])) ++ [(2 : Int)] else (if mayF d m 1 = true then (if mayF d m 0 = true then [] ++ [(0 : Int)] else []) ++ [(1 : Int)] else (if mayF d m 0 = true then [] ++ [(0 : Int)] else []))) = _
  cases mayF d m 0 <;> cases mayF d m 1 <;> cases mayF d m 2 <;> rfl
theorem voK_len (d : Dv) (m : Int) (v : Nat) : (voK d m v).length ≤ v := by
  simp only [voK, List.length_map]
  exact Nat.le_trans (List.length_filter_le _ _) (by simp)
theorem trR_trK {d : Dv} (hm : d.m ≤ 40) : ∀ (r : Nat) (b : List Int) (f : Nat → Int), b.length + r = d.m.toNat → (∀ j, j < b.length → f j = b.getD j 0) → trR d r b = (trK (mayL (lookF d)) r b.length f).map fun g => (List.range d.m.toNat).map g
  | 0, b, f, hl, hf => by
    simp only [trR, trK, List.map_cons, List.map_nil, List.cons.injEq, and_true]
    apply List.ext_getElem (by simp; omega)
    intro i h1 h2
    simp only [List.getElem_map, List.getElem_range]
    rw [hf i h1, gd0 h1]
  | r + 1, b, f, hl, hf => by
    simp only [trR, trK, List.map_flatMap]
    have e : mayL (lookF d) b.length = votesF d b.length := may_look hm (by omega)
    rw [e]
    congr 1
    funext v
    have ih := trR_trK hm r (b ++ [v]) (fun j => if j = b.length then v else f j) (by simp; omega) (fun j hj => by
      simp only [List.length_append, List.length_cons, List.length_nil] at hj
      by_cases h : j = b.length
      · subst h; simp
      · rw [if_neg h, hf j (by omega)]
        simp only [List.getD_eq_getElem?_getD]
        rw [List.getElem?_append_left (by omega)])
    rw [ih, List.length_append]; rfl
theorem dcnt_part (may : Nat → List Int) {r k n : Nat} (h : k + r = n) : dcnt may r k ≤ dcnt may n 0 := by
  rw [dcnt_eq, dcnt_eq]
  have e : List.range' 0 n = List.range' 0 k ++ List.range' k r := by
    have := @List.range'_append_1 0 k r
    rw [Nat.zero_add] at this
    rw [this, h]
  rw [e, List.filter_append, List.length_append]
  omega
theorem trR_len {d : Dv} (ho : openF d = 0) {r : Nat} {b : List Int} (h : b.length + r = d.m.toNat) : (trR d r b).length ≤ 6561 := by
  obtain ⟨hf, h8⟩ := open_fault ho
  obtain ⟨hm0, hm1⟩ := fault_m hf
  rw [trR_trK hm1 r b (fun j => b.getD j 0) h (fun _ _ => rfl), List.length_map]
  have h1 := trK_bound (mayL_le3 d) r b.length (fun j => b.getD j 0)
  have h2 := dcnt_part (mayL (lookF d)) h
  have h3 : dcnt (mayL (lookF d)) d.m.toNat 0 ≤ 8 := by
    rw [dcnt_eq, ← List.range_eq_range']
    have := dbK_look (d := d) hm1
    have e : ((List.range d.m.toNat).filter fun j => decide (1 < (mayL (lookF d) j).length)).length = (dbK (lookF d) d.m.toNat).length := by
      rw [dbK, List.length_map]; rfl
    rw [e, this]; exact h8
  exact Nat.le_trans h1 (Nat.le_trans (Nat.pow_le_pow_right (by decide) (Nat.le_trans h2 h3)) (by decide))
def tabTrs : Tab Try.prog := Tab.cons 44 _ may44 body44 (Tab.nil _)
theorem truths18r : ∀ r, Sound Try.prog 18 id (grel (args2 dvRd (slRd u8E) fun d b => openF d = 0 ∧ b.length + r = d.m.toNat) fun x v G => RRV G v (trR x.1 r x.2)) := by
  intro r
  induction r with
  | zero =>
    refine comp18.grel tabTrs (ok2 _ _ _) (fun args G s h => ?_) (fun x v G G' hg ⟨hs, h1, h2⟩ => ⟨hs, h1.grow hg, h2.grow hg⟩) (fun args G x h => ?_)
    · obtain ⟨v, w, rfl, _⟩ := h; simp
    · obtain ⟨d, b⟩ := x
      obtain ⟨u, v, rfl, ⟨w0, w1, w2, w3, w4, w5, rfl, hd⟩, ⟨ab, nb, cb, rfl, hb, hbn⟩, ho, hbr⟩ := h
      dsimp only at hd hb ho hbr
      have hbl := hb.len
      obtain ⟨hm0, hm1⟩ := right_m (fault_right (open_fault ho).1)
      obtain ⟨x0, y0, z0, rfl, la0, ya0⟩ := id hd.a0
      obtain ⟨x1, y1, z1, rfl, la1, ya1⟩ := id hd.a1
      obtain ⟨x2, y2, z2, rfl, ln0, yn0⟩ := id hd.n0
      obtain ⟨x3, y3, z3, rfl, ln1, yn1⟩ := id hd.n1
      obtain ⟨x4, y4, z4, rfl, lps, yps⟩ := id hd.ps
      obtain ⟨x5, y5, z5, rfl, lqs, yqs⟩ := id hd.qs
      dsimp only
      (conv => whnf)
      refine IteP.mk (fun _ => W.mk ?_) (fun h => by exfalso; omega)
      (conv => whnf)
      refine PubP.mk (fun a1 c1 G1 hg1 hp => W.mk ?_)
      (conv => whnf)
      refine FinP.mk ⟨[(ab, nb, cb)], ?_, ?_⟩
      · exact PubRow.slV hp rfl rfl (by decide)
      · exact RRs.one ⟨_, _, _, rfl, SlR.grow (G := G) (G' := G1) (fun _ _ h => h) hb hg1, hbn⟩
  | succ r ih =>
    refine comp18.grel tabTrs (ok2 _ _ _) (fun args G s h => ?_) (fun x v G G' hg ⟨hs, h1, h2⟩ => ⟨hs, h1.grow hg, h2.grow hg⟩) (fun args G x h => ?_)
    · obtain ⟨v, w, rfl, _⟩ := h; simp
    · obtain ⟨d, b⟩ := x
      obtain ⟨u, v, rfl, ⟨w0, w1, w2, w3, w4, w5, rfl, hd⟩, ⟨ab, nb, cb, rfl, hb, hbn⟩, ho, hbr⟩ := h
      dsimp only at hd hb ho hbr
      have hbl := hb.len
      obtain ⟨hm0, hm1⟩ := right_m (fault_right (open_fault ho).1)
      have hd0 := hd
      obtain ⟨x0, y0, z0, rfl, la0, ya0⟩ := id hd.a0
      obtain ⟨x1, y1, z1, rfl, la1, ya1⟩ := id hd.a1
      obtain ⟨x2, y2, z2, rfl, ln0, yn0⟩ := id hd.n0
      obtain ⟨x3, y3, z3, rfl, ln1, yn1⟩ := id hd.n1
      obtain ⟨x4, y4, z4, rfl, lps, yps⟩ := id hd.ps
      obtain ⟨x5, y5, z5, rfl, lqs, yqs⟩ := id hd.qs
      dsimp only
      (conv => whnf)
      refine IteP.mk (fun h => by exfalso; omega) (fun _ => W.mk ?_)
      (conv => whnf)
      refine LoopP.of { α := Nat × Nat × List Value × List Hdr, fr := fun x => [(1, .v (.slice ab nb cb)), (2, .c (.ptr 0 0)), (5, .c (.row 10 x.2.1)), (6, .v (I x.1))], H := fun x => [(0, .cells .anon (DVC d x0 x1 x2 x3 x4 x5 y0 z0 y1 z1 y2 z2 y3 z3 y4 z4 y5 z5) 27), (10, .row none x.2.1 x.2.2.1 50 1)], ok := fun x G => x.1 ≤ 3 ∧ Row hdE x.2.2.2 x.2.1 x.2.2.1 ∧ RRs G x.2.2.2 ((voK d b.length x.1).flatMap fun v => trR d r (b ++ [v])), m := fun x => 3 - x.1 }
        (0, 0, [], []) (HeadP.of [(10, none)] ⟨rfl, rfl, rfl, rfl, trivial⟩ ⟨rfl, rfl, trivial⟩) ⟨Nat.zero_le _, Row.nil, RRs.nil⟩ (fun _ => ⟨rfl, rfl⟩) (fun x G1 hg1 hx => W.mk ?_)
      obtain ⟨v, n, vs, hs⟩ := x
      obtain ⟨hv3, hrow, hrr⟩ := hx
      dsimp only at hv3 hrow hrr
      have hd1 := hd0.grow hg1
      have hb1 := SlR.grow (G := G) (G' := G1) (fun _ _ h => h) hb hg1
      have hnn := hrow.n
      have hbd := flat_le (B := 6561) (l := voK d b.length v) (g := fun v => trR d r (b ++ [v])) (fun x _ => trR_len ho (by simp; omega))
      have hvl := voK_len d b.length v
      have hn2 : n ≤ 19683 := by
        rw [hnn, hrr.1]
        exact Nat.le_trans hbd (by have := Nat.mul_le_mul_right 6561 (Nat.le_trans hvl hv3); omega)
      dsimp only
      (conv => whnf)
      refine IteP.mk (fun hlt => W.mk ?_) (fun hge => W.mk ?_) <;> (conv => whnf)
      · repeat' (refine OblP.mk ?_ (W.mk ?_); (first | trivial | omega | (simp only [inR]; omega) | exact Nat.le_of_ble_eq_true (by rfl) | exact SlR.some (by assumption) (by omega)); (conv => whnf))
        refine ScaP.g (ok3 dvRd intRd u8Rd fun _ _ _ => True) (x := (d, (nb : Int), (v : Int))) ⟨_, _, _, rfl, ⟨_, _, _, _, _, _, rfl, hd1⟩, rfl, rfl, trivial⟩ (fun w hw => W.mk ?_)
        subst hw
        dsimp only
        (conv => whnf)
        refine ForkP.mk (fun hq => W.mk ?_) (fun hq => W.mk ?_) <;> (conv => whnf)
        · refine OblP.mk (fun h => hb1.some h) (W.mk ?_)
          (conv => whnf)
          refine RdP.at hb1.all.1 hb1.all.2.1 (W.mk ?_)
          (conv => whnf)
          refine OblP.mk hb1.all.2.2 (W.mk ?_)
          (conv => whnf)
          refine OblP.mk rfl (W.mk ?_)
          (conv => whnf)
          refine OblP.mk (by omega) (W.mk ?_)
          (conv => whnf)
          repeat' (first | (refine OblP.mk rfl (W.mk ?_); (conv => whnf)) | (refine OblP.mk ?_ (W.mk ?_); (first | trivial | omega | (simp only [inR]; omega) | exact Nat.le_of_ble_eq_true (by rfl) | exact SlR.some (by assumption) (by omega)); (conv => whnf)) | (first | (refine RdP.at (by assumption) (by rfl) (W.mk ?_); (conv => whnf)) | (refine RdP.sub (by assumption) (by rfl) (W.mk ?_); (conv => whnf)) | (refine RdP.sub2 (by assumption) (by rfl) (W.mk ?_); (conv => whnf)) | (refine RdP.sub3 (by assumption) (by rfl) (W.mk ?_); (conv => whnf))))
          refine PubP.mk (fun a2 c2 G2 hg2 hp => W.mk ?_)
          (conv => whnf)
          refine FnvP.mk ⟨_, SoundFn.of body18 (Sound.bare ih), W.mk ?_⟩
          (conv => whnf)
          have hp2 : SlV u8E G2 (.slice a2 (0 + nb + 1) c2) (b ++ [(v : Int)]) := by
            refine Row.pub (n := 0 + nb + 1) (vs := (b.map u8E.f).flatten ++ [U v]) ⟨by simp; omega, by simp [u8E]⟩ (by simpa using hp) (by omega)
          refine RelP.g (ok2 dvRd (slRd u8E) fun d b => openF d = 0 ∧ b.length + r = d.m.toNat) (x := (d, b ++ [(v : Int)])) ⟨_, _, rfl, ⟨_, _, _, _, _, _, rfl, hd1.grow hg2⟩, hp2, ho, by simp; omega⟩ (Grow.refl _) (fun w G3 hg3 hq2 => W.mk ?_)
          obtain ⟨hs2, ⟨aw, nw, cw, rfl, hw, hwn⟩, hrr2⟩ := hq2
          dsimp only at hrr2
          have hwl := hw.len
          have hw2 := trR_len ho (r := r) (b := b ++ [(v : Int)]) (by simp; omega)
          rw [← hrr2.1] at hw2
          (conv => whnf)
          refine OblP.mk (fun h => hw.some h) (W.mk ?_)
          (conv => whnf)
          refine RdP.at hw.all.1 hw.all.2.1 (W.mk ?_)
          (conv => whnf)
          refine OblP.mk hw.all.2.2 (W.mk ?_)
          (conv => whnf)
          refine OblP.mk rfl (W.mk ?_)
          (conv => whnf)
          refine OblP.mk (by omega) (W.mk ?_)
          (conv => whnf)
          repeat' (refine OblP.mk ?_ (W.mk ?_); (first | trivial | omega | (simp only [inR]; omega) | exact Nat.le_of_ble_eq_true (by rfl) | exact SlR.some (by assumption) (by omega)); (conv => whnf))
          refine RoundP.of (v + 1, n + nw, vs ++ (hs2.map hdE.f).flatten, hs ++ hs2) (HeadP.of [(10, some 30)] ⟨rfl, rfl, rfl, rfl, trivial⟩ ⟨rfl, rfl, trivial⟩) ⟨by show v + 1 ≤ 3; omega, ⟨by rw [List.length_append, hnn, hwl], by rw [hrow.vs, List.map_append, List.flatten_append]⟩, ?_⟩ (by simp only; omega)
          dsimp only
          rw [voK_succ, if_pos (by rw [hbl]; exact hq), List.flatMap_append]
          refine (hrr.grow (hg2.trans hg3)).app ?_
          simpa using hrr2
        · repeat' (refine OblP.mk ?_ (W.mk ?_); (first | trivial | omega | (simp only [inR]; omega) | exact Nat.le_of_ble_eq_true (by rfl) | exact SlR.some (by assumption) (by omega)); (conv => whnf))
          refine RoundP.of (v + 1, n, vs, hs) (HeadP.of [] ⟨rfl, rfl, rfl, rfl, trivial⟩ ⟨rfl, rfl, trivial⟩) ⟨by show v + 1 ≤ 3; omega, hrow, ?_⟩ (by simp only; omega)
          rw [voK_succ, if_neg (by rw [hbl, hq]; simp)]
          exact hrr
      · have : v = 3 := by omega
        subst this
        rw [voK_votes] at hrr
        refine PubP.mk (fun a1 c1 G2 hg2 hp => W.mk ?_)
        (conv => whnf)
        refine FinP.mk ⟨hs, hrow.pub hp (by omega), ?_⟩
        rw [trR]
        exact hrr.grow hg2
theorem truths18 : Sound Try.prog 18 id (grel (args2 dvRd (slRd u8E) fun d b => openF d = 0 ∧ b = []) fun x v G => RRV G v (trR x.1 x.1.m.toNat [])) :=
  Sound.joinR (Ri := fun r => args2 dvRd (slRd u8E) fun d b => openF d = 0 ∧ b.length + r = d.m.toNat) truths18r (fun _ => ok2 _ _ _) (ok2 _ _ _) (fun x v G G' hg ⟨hs, h1, h2⟩ => ⟨hs, h1.grow hg, h2.grow hg⟩) (fun args G x ⟨u, v, h, h1, h2, h3, h4⟩ => ⟨x.1.m.toNat, ⟨u, v, h, h1, h2, h3, by rw [h4]; simp⟩, fun v G' hq => by rw [h4] at hq; exact hq⟩)
end Go.Proofs.Ytgpfejgohclheaa

namespace Go.Proofs.Ytgpfejgohclheaa
open Go.Pal
set_option maxRecDepth 100000
def tabSm : Tab Try.prog := Tab.cons 20 _ few20u body20 (Tab.cons 14 _ fault14 body14 (Tab.cons 16 _ doubts16 body16 (Tab.nil _)))
theorem small9u : Sound Try.prog 9 id (gsca (args1 duRd fun _ => True) fun d v => v = .bool (smallF d)) := by
  refine comp9.gsca tabSm (fun args G s h => ?_) (fun args G d h => ?_)
  · obtain ⟨v, rfl, _⟩ := h; simp
  · obtain ⟨u, rfl, ⟨w0, w1, w2, w3, w4, w5, rfl, hd⟩, _⟩ := h
    have hdu : DuV G _ d := ⟨_, _, _, _, _, _, rfl, hd⟩
    obtain ⟨x0, y0, z0, rfl, la0⟩ := id hd.a0
    obtain ⟨x1, y1, z1, rfl, la1⟩ := id hd.a1
    obtain ⟨x2, y2, z2, rfl, ln0⟩ := id hd.n0
    obtain ⟨x3, y3, z3, rfl, ln1⟩ := id hd.n1
    obtain ⟨x4, y4, z4, rfl, lps⟩ := id hd.ps
    obtain ⟨x5, y5, z5, rfl, lqs⟩ := id hd.qs
    (conv => whnf)
    refine ScaP.g (ok1 duRd fun _ => True) (x := d) ⟨_, rfl, hdu, trivial⟩ (fun v hv => W.mk ?_)
    subst hv
    (conv => whnf)
    refine ForkP.mk (fun h1 => W.mk ?_) (fun h1 => W.mk ?_) <;> (conv => whnf)
    · refine ScaP.g (ok1 dvRd fun _ => True) (x := d) ⟨_, rfl, hdu.v h1, trivial⟩ (fun v hv => W.mk ?_)
      subst hv
      (conv => whnf)
      refine IteP.mk (fun h2 => W.mk ?_) (fun h2 => W.mk ?_) <;> (conv => whnf)
      · refine RelP.g (ok1 dvRd fun d => 0 ≤ d.m ∧ d.m ≤ 40) (x := d) ⟨_, rfl, hdu.v h1, by have := head_m (right_head (fault_right h2)); omega⟩ (Grow.refl _) (fun v G1 hg1 hq => W.mk ?_)
        obtain ⟨a, n, c, rfl, hl, hn⟩ := hq
        have hlen := hl.len
        (conv => whnf)
        refine IteP.mk (fun h3 => W.mk ?_) (fun h3 => W.mk ?_) <;> (conv => whnf)
        · refine FinP.mk ?_
          refine congrArg Value.bool ?_
          rw [smallF, if_pos ⟨h1, h2⟩, eq_comm, decide_eq_true_eq]; exact .inl (by omega)
        · refine IteP.mk (fun h4 => W.mk ?_) (fun h4 => W.mk ?_) <;> (conv => whnf) <;> refine FinP.mk ?_ <;> refine congrArg Value.bool ?_
          · rw [smallF, if_pos ⟨h1, h2⟩, eq_comm, decide_eq_true_eq]; exact .inr (by omega)
          · rw [smallF, if_pos ⟨h1, h2⟩, eq_comm, decide_eq_false_iff_not]; omega
      · refine ScaP.g (ok1 duRd fun _ => True) (x := d) ⟨_, rfl, hdu, trivial⟩ (fun v hv => W.mk ?_)
        subst hv
        (conv => whnf)
        refine ForkP.mk (fun h3 => W.mk ?_) (fun h3 => W.mk ?_) <;> (conv => whnf) <;> refine FinP.mk ?_ <;> refine congrArg Value.bool ?_ <;> rw [smallF, if_neg (fun h => h2 h.2), h3]
    · refine ScaP.g (ok1 duRd fun _ => True) (x := d) ⟨_, rfl, hdu, trivial⟩ (fun v hv => W.mk ?_)
      subst hv
      (conv => whnf)
      refine ForkP.mk (fun h3 => W.mk ?_) (fun h3 => W.mk ?_) <;> (conv => whnf) <;> refine FinP.mk ?_ <;> refine congrArg Value.bool ?_ <;> rw [smallF, if_neg (fun h => by rw [h.1] at h1; cases h1), h3]
end Go.Proofs.Ytgpfejgohclheaa

namespace Go.Proofs.Ytgpfejgohclheaa
open Go.Pal
def refT (d : Dv) : List (List Int) := trR d d.m.toNat []
theorem refT_eq {d : Dv} (hm : d.m ≤ 40) : refT d = (truL (lookF d)).map fun g => (List.range d.m.toNat).map g :=
  trR_trK hm d.m.toNat [] (fun _ => 0) (by simp) (fun j hj => by simp at hj)
theorem rg_get {f : Nat → Int} {M k : Nat} (h : k < M) : ((List.range M).map f).getD k 0 = f k := by simp [h]
theorem refT_out {d : Dv} (hr : rightD d = true) (f : Nat → Int) : ofF d ((List.range d.m.toNat).map f) = ofF d (trT f) :=
  ofF_ext hr fun k hk => by
    have := right_m hr
    rw [rg_get hk, trT_get (by omega)]
theorem refT_fit {d : Dv} (hr : rightD d = true) {t : List Int} (h : t ∈ refT d) : Fit d t := by
  rw [refT_eq (right_m hr).2] at h
  obtain ⟨f, hf, rfl⟩ := List.mem_map.1 h
  exact tru_fit hr hf
end Go.Proofs.Ytgpfejgohclheaa

namespace Go.Proofs.Ytgpfejgohclheaa
open Go.Pal
set_option maxRecDepth 100000
theorem small_few {d : Dv} (h : smallF d = true) : fewF d = true := by
  unfold smallF at h
  split at h
  · rename_i h1; exact h1.1
  · exact h
/-- What Of asks of a truth that fits. -/
theorem tr_of {d : Dv} {t : List Int} (hr : rightD d = true) (hfw : fewF d = true) (h : Fit d t) : Tr d t := by
  have hm := right_m hr
  have hl := h.1
  exact ⟨by omega, by omega, by omega, fun k hk => h.vote _ (List.getElem_mem _), by simp only [fewF, Bool.and_eq_true, decide_eq_true_eq] at hfw; omega, fun p hp => by
    obtain ⟨k, hk, rfl⟩ := List.getElem_of_mem hp
    have := right_qs hr hk
    exact ⟨this.1.1, this.1.2, this.2.1, this.2.2⟩⟩
set_option maxHeartbeats 1000000
end Go.Proofs.Ytgpfejgohclheaa

namespace Go.Proofs.Ytgpfejgohclheaa
open Go.Pal
set_option maxRecDepth 100000
/-- The first truth with an outcome; none: nothing. -/
def fW (d : Dv) (x : Int) (ts : List (List Int)) : List Int := (ts.find? fun t => decide (outF d (ofF d t) = x)).getD []
theorem fW_cons (d : Dv) (x : Int) (t : List Int) (ts : List (List Int)) : fW d x (t :: ts) = if outF d (ofF d t) = x then t else fW d x ts := by
  unfold fW
  rw [List.find?_cons]
  by_cases h : outF d (ofF d t) = x
  · rw [if_pos h, decide_eq_true h]; rfl
  · rw [if_neg h, decide_eq_false h]
theorem fW_wit {d : Dv} (hr : rightD d = true) (x : Int) : fW d x (refT d) = witL d x := by
  unfold fW witL wtF
  rw [refT_eq (right_m hr).2, List.find?_map]
  have e : ((fun t => decide (outF d (ofF d t) = x)) ∘ fun g => (List.range d.m.toNat).map g) = fun f => decide (outT d f = x) := by
    funext f
    show decide (outF d (ofF d ((List.range d.m.toNat).map f)) = x) = _
    rw [refT_out hr]
  rw [e]
  cases (truL (lookF d)).find? fun f => decide (outT d f = x) <;> rfl
theorem refT_outs {d : Dv} (hr : rightD d = true) : (refT d).map (fun t => outF d (ofF d t)) = outsF d := by
  rw [refT_eq (right_m hr).2, List.map_map, outsF]
  apply List.map_congr_left
  intro f _
  show outF d (ofF d ((List.range d.m.toNat).map f)) = _
  rw [refT_out hr]
def alK (d : Dv) (o : Nat) : List Int := (([0, 1, 2] : List Int).take o).filter fun o => (outsF d).contains o
def anyK (d : Dv) (o : Nat) (k : Nat) : Bool := ((refT d).drop k).any fun t => decide (outF d (ofF d t) = (o : Int))
def inK (d : Dv) (o k : Nat) : List Int := alK d o ++ if anyK d o k then [(o : Int)] else []
theorem anyK_end {d : Dv} {o k : Nat} (h : (refT d).length ≤ k) : anyK d o k = false := by
  rw [anyK, List.drop_of_length_le h]; rfl
theorem anyK_cons {d : Dv} {o k : Nat} (h : k < (refT d).length) : anyK d o k = (decide (outF d (ofF d (refT d)[k]) = (o : Int)) || anyK d o (k + 1)) := by
  rw [anyK, List.drop_eq_getElem_cons h, List.any_cons]; rfl
theorem anyK_zero {d : Dv} (hr : rightD d = true) (o : Nat) : anyK d o 0 = (outsF d).contains (o : Int) := by
  rw [anyK, List.drop_zero, ← refT_outs hr, Bool.eq_iff_iff]
  simp only [List.any_eq_true, decide_eq_true_eq, List.contains_iff_mem, List.mem_map]
theorem alK_succ {d : Dv} (hr : rightD d = true) {o : Nat} (ho : o < 3) : alK d (o + 1) = inK d o 0 := by
  unfold inK alK
  rw [anyK_zero hr]
  rcases (by omega : o = 0 ∨ o = 1 ∨ o = 2) with rfl | rfl | rfl
  · simp only [List.take, List.filter]
    show _ = [] ++ if (outsF d).contains 0 = true then [0] else []
    cases (outsF d).contains 0 <;> rfl
  · simp only [List.take, List.filter]
    show _ = _ ++ if (outsF d).contains 1 = true then [1] else []
    cases (outsF d).contains 0 <;> cases (outsF d).contains 1 <;> rfl
  · simp only [List.take, List.filter]
    show _ = _ ++ if (outsF d).contains 2 = true then [2] else []
    cases (outsF d).contains 0 <;> cases (outsF d).contains 1 <;> cases (outsF d).contains 2 <;> rfl
theorem alK_all (d : Dv) : alK d 3 = allowedF d := rfl
theorem alK_lt {d : Dv} {o : Nat} {y : Int} (h : y ∈ alK d o) : y < o := by
  obtain ⟨h, _⟩ := List.mem_filter.1 h
  rcases Nat.lt_or_ge o 3 with ho | ho
  · rcases (by omega : o = 0 ∨ o = 1 ∨ o = 2) with rfl | rfl | rfl
    · simp at h
    · simp at h; omega
    · simp at h; omega
  · have := List.mem_of_mem_take h
    simp at this; omega
theorem alK_len (d : Dv) (o : Nat) : (alK d o).length ≤ 3 := Nat.le_trans (List.length_filter_le _ _) (by rw [List.length_take]; exact Nat.min_le_right _ _)
/-- The witness, below an outcome. -/
def wK (d : Dv) (x : Int) (o : Nat) : List Int := if x < o then fW d x (refT d) else []
def wI (d : Dv) (x : Int) (o k : Nat) : List Int := if x = o then fW d x ((refT d).drop k) else wK d x o
def askE (d : Dv) (x : Int) : Int := if 2 < x ∧ openF d ≠ 1 then 2 else openF d
theorem open_one {d : Dv} : openF d = 1 ↔ rightD d = false := by
  unfold openF
  constructor
  · intro h
    cases hr : rightD d with
    | false => rfl
    | true =>
      rw [faultF, hr] at h
      simp only [if_true] at h
      split at h
      · cases h
      · split at h <;> omega
  · intro h
    have : faultF d = 1 := by rw [faultF, h]; rfl
    rw [if_neg (by rw [this]; simp), this]
theorem ask_wit {d : Dv} {x : Int} (h : askE d x ≠ 0) : witE d x = askE d x := by
  unfold askE at h ⊢
  unfold witE
  cases hr : rightD d with
  | false =>
    have := open_one.2 hr
    rw [this]; simp
  | true =>
    have h1 : openF d ≠ 1 := fun e => by rw [open_one.1 e] at hr; cases hr
    rw [if_pos (rfl : true = true)]
    by_cases h2 : 2 < x
    · rw [if_pos h2, if_pos (⟨h2, h1⟩ : 2 < x ∧ openF d ≠ 1)]
    · rw [if_neg (fun e : 2 < x ∧ openF d ≠ 1 => h2 e.1)] at h ⊢
      rw [if_neg h2, if_neg h]
theorem wit_zero {d : Dv} {x : Int} (ho : openF d = 0) (hx : x ≤ 2) : witE d x = if (wtF d x).isSome then 0 else 7 := by
  have hr := fault_right (open_fault ho).1
  rw [witE, if_pos hr, if_neg (by omega), if_pos ho]
theorem wI_zero {d : Dv} {x : Int} {o : Nat} : wI d x o 0 = wK d x (o + 1) := by
  unfold wI wK
  by_cases h : x = o
  · rw [if_pos h, if_pos (by omega), List.drop_zero]
  · rw [if_neg h]
    by_cases h2 : x < o
    · rw [if_pos h2, if_pos (by omega)]
    · rw [if_neg h2, if_neg (by omega)]
theorem wI_end {d : Dv} {x : Int} {o k : Nat} (h : (refT d).length ≤ k) : wI d x o k = wK d x o := by
  unfold wI wK
  rw [List.drop_of_length_le h]
  by_cases h : x = o
  · rw [if_pos h, if_neg (by omega)]; rfl
  · rw [if_neg h]
theorem wI_cons {d : Dv} {x : Int} {o k : Nat} (h : k < (refT d).length) : wI d x o k = if x = o ∧ outF d (ofF d (refT d)[k]) = (o : Int) then (refT d)[k] else wI d x o (k + 1) := by
  unfold wI
  rw [List.drop_eq_getElem_cons h, fW_cons]
  by_cases hx : x = o
  · rw [if_pos hx, if_pos hx, hx]
    by_cases ho : outF d (ofF d (refT d)[k]) = (o : Int)
    · rw [if_pos ho, if_pos ⟨rfl, ho⟩]
    · rw [if_neg ho, if_neg (fun e => ho e.2)]
  · rw [if_neg hx, if_neg hx, if_neg (fun e => hx e.1)]
theorem wit_nil {d : Dv} (hr : rightD d = true) (x : Int) : (witL d x).length = 0 ↔ (wtF d x).isSome = false := by
  unfold witL
  have := right_m hr
  cases h : wtF d x with
  | none => simp
  | some f =>
    simp only [List.length_map, List.length_range, Option.isSome_some]
    constructor
    · intro h; omega
    · intro h; cases h
def tabAl : Tab Try.prog := Tab.cons 9 _ small9u body9 (Tab.cons 10 _ wakes10 body10 (Tab.cons 12 _ div12 body12 (Tab.cons 23 _ allowed23 body23 (Tab.cons 31 _ wit31 body31 (Tab.cons 17 _ open17 body17 (Tab.cons 18 _ truths18 body18 (Tab.cons 19 _ of19 body19 (Tab.cons 32 _ out32 body32 (Tab.cons 33 _ votes33 body33 (Tab.nil _))))))))))
set_option maxHeartbeats 1000000
theorem law7 : Sound Try.prog 7 id (gsca (args2 duRd u8Rd fun d x => rul d ∧ 0 ≤ x ∧ x ≤ 255) fun _ v => v = .bool true) := by
  refine comp7.gsca tabAl (fun args G s h => ?_) (fun args G x h => ?_)
  · obtain ⟨v, w, rfl, _⟩ := h; simp
  · obtain ⟨d, x⟩ := x
    obtain ⟨u, v, rfl, ⟨w0, w1, w2, w3, w4, w5, rfl, hd⟩, rfl, hr, hx0, hx1⟩ := h
    dsimp only at hd hr hx0 hx1
    have hdu : DuV G _ d := ⟨_, _, _, _, _, _, rfl, hd⟩
    obtain ⟨x0, y0, z0, rfl, la0⟩ := id hd.a0
    obtain ⟨x1, y1, z1, rfl, la1⟩ := id hd.a1
    obtain ⟨x2, y2, z2, rfl, ln0⟩ := id hd.n0
    obtain ⟨x3, y3, z3, rfl, ln1⟩ := id hd.n1
    obtain ⟨x4, y4, z4, rfl, lps⟩ := id hd.ps
    obtain ⟨x5, y5, z5, rfl, lqs⟩ := id hd.qs
    dsimp only
    (conv => whnf)
    refine ScaP.g (ok1 duRd fun _ => True) (x := d) ⟨_, rfl, hdu, trivial⟩ (fun v hv => W.mk ?_)
    subst hv
    (conv => whnf)
    refine ForkP.mk (fun hsm => W.mk ?_) (fun hsm => W.mk ?_) <;> (conv => whnf)
    rotate_left
    · refine ScaP.g okU (x := ()) rfl (fun v hv => W.mk ?_)
      subst hv
      (conv => whnf)
      refine ForkP.mk (fun _ => W.mk ?_) (fun h => by cases h)
      (conv => whnf)
      exact FinP.mk rfl
    have hfw := small_few hsm
    have hdv := hdu.v hfw
    have hg0 := Grow.refl G
    refine RelP.g (ok1 dvRd fun d => fewF d = true) (x := d) ⟨_, rfl, dvRd.grow hg0 hdv, hfw⟩ (Grow.refl _) (fun v G1 h1 hq => W.mk ?_)
    have hg1 := hg0.trans h1
    have hd1 := hq
    obtain ⟨_, _, _, _, _, _, rfl, hq⟩ := hq
    obtain ⟨xx0, yy0, zz0, rfl, _, _⟩ := id hq.a0
    obtain ⟨xx1, yy1, zz1, rfl, _, _⟩ := id hq.a1
    obtain ⟨xx2, yy2, zz2, rfl, _, _⟩ := id hq.n0
    obtain ⟨xx3, yy3, zz3, rfl, _, _⟩ := id hq.n1
    obtain ⟨xx4, yy4, zz4, rfl, _, _⟩ := id hq.ps
    obtain ⟨xx5, yy5, zz5, rfl, _, _⟩ := id hq.qs
    (conv => whnf)
    refine RelP.g (ok1 dvRd rul) (x := d) ⟨_, rfl, hd1, hr⟩ (Grow.refl _) (fun v G2 h2 hq => W.mk ?_)
    have hg2 := hg1.trans h2
    obtain ⟨w, rfl, aq, nq, cq, rfl, hq2, hqn⟩ := hq
    (conv => whnf)
    refine RelP.g (ok1 dvRd fun d => fewF d = true) (x := d) ⟨_, rfl, dvRd.grow hg2 hdv, hfw⟩ (Grow.refl _) (fun v G3 h3 hq => W.mk ?_)
    have hg3 := hg2.trans h3
    have hd3 := hq
    obtain ⟨_, _, _, _, _, _, rfl, hq⟩ := hq
    obtain ⟨xx0, yy0, zz0, rfl, _, _⟩ := id hq.a0
    obtain ⟨xx1, yy1, zz1, rfl, _, _⟩ := id hq.a1
    obtain ⟨xx2, yy2, zz2, rfl, _, _⟩ := id hq.n0
    obtain ⟨xx3, yy3, zz3, rfl, _, _⟩ := id hq.n1
    obtain ⟨xx4, yy4, zz4, rfl, _, _⟩ := id hq.ps
    obtain ⟨xx5, yy5, zz5, rfl, _, _⟩ := id hq.qs
    (conv => whnf)
    refine RelP.g (ok2 dvRd u8Rd fun d _ => rul d) (x := (d, x)) ⟨_, _, rfl, hd3, rfl, hr⟩ (Grow.refl _) (fun v G4 h4 hq => W.mk ?_)
    have hg4 := hg3.trans h4
    obtain ⟨w, rfl, ap, np, cp, rfl, hp4, hpn⟩ := hq
    have hdv4 := dvRd.grow hg4 hdv
    dsimp only at hp4
    have hask := ask_wit (d := d) (x := x)
    have hae : askE d x = if 2 < x ∧ openF d ≠ 1 then 2 else openF d := rfl
    generalize hwe : witE d x = we at hp4 hask ⊢
    have hpl := hp4.len
    (conv => whnf)
    refine ScaP.g (ok1 dvRd fun _ => True) (x := d) ⟨_, rfl, hdv4, trivial⟩ (fun v hv => W.mk ?_)
    by_cases ho : openF d = 0
    · rw [ho] at hv hae
      subst hv
      rw [if_pos ho] at hq2
      rw [ho]
      (conv => whnf)
      by_cases hx2 : 2 < x
      · rw [if_pos ⟨hx2, by decide⟩] at hae
        rw [hae] at hask
        have hask := hask (by decide)
        subst hask
        have hpl : 0 = np := hpl
        subst hpl
        refine IteP.mk (fun _ => W.mk ?_) (fun h => absurd hx2 h)
        (conv => whnf)
        repeat' (refine IteP.mk (fun _ => W.mk ?_) (fun _ => W.mk ?_) <;> first | (exfalso; omega) | (conv => whnf))
        refine RelP.g (ok2 dvRd (slRd u8E) fun d b => openF d = 0 ∧ b = []) (x := (d, [])) ⟨_, _, rfl, hdv4, SlV.nil, ho, rfl⟩ (Grow.refl _) (fun v G5 h5 hq => W.mk ?_)
        obtain ⟨hs, ⟨at_, nt, ct, rfl, hH, hHn⟩, hRR⟩ := hq
        have hRR : RRs G5 hs (refT d) := hRR
        have hdv5 := dvRd.grow h5 hdv4
        have hri := fault_right (open_fault ho).1
        have hHl := hH.len
        have hRl := hRR.1
        have hrl : (refT d).length ≤ 6561 := trR_len ho (by simp)
        (conv => whnf)
        refine LoopP.of { α := Nat × Hdr × List Int × Nat × List Value, fr := fun y => [(1, .v (U x)), (2, .c (.ptr 0 0)), (5, .v (.slice aq nq cq)), (6, .v (I 0)), (7, .v (.slice ap 0 cp)), (8, .v (I 2)), (10, .v (I 2)), (11, .c (.row 63 y.2.2.2.1)), (12, .v (hV y.2.1)), (13, .v (.slice at_ nt ct)), (14, .v (I y.1))], H := fun y => [(0, .cells .anon (DVC d x0 x1 x2 x3 x4 x5 y0 z0 y1 z1 y2 z2 y3 z3 y4 z4 y5 z5) 27), (63, .row none y.2.2.2.1 y.2.2.2.2 5 1)], ok := fun y G => y.1 ≤ 3 ∧ SlV u8E G (hV y.2.1) (wK d x y.1) ∧ y.2.2.1 = alK d y.1 ∧ Row u8E y.2.2.1 y.2.2.2.1 y.2.2.2.2, m := fun y => 3 - y.1 }
          (0, (none, 0, 0), [], 0, []) (HeadP.of [(63, none)] ⟨rfl, rfl, rfl, rfl, rfl, rfl, rfl, rfl, rfl, rfl, rfl, trivial⟩ ⟨rfl, rfl, trivial⟩) ⟨Nat.zero_le _, by show SlV u8E G5 (.slice none 0 0) (wK d x 0); rw [wK, if_neg (by omega)]; exact SlV.nil, rfl, Row.nil⟩ (fun _ => ⟨rfl, rfl⟩) (fun y G6 hg6 hx => W.mk ?_)
        obtain ⟨o, wt, al, n, vs⟩ := y
        obtain ⟨ho3, hw6, hal, hrow⟩ := hx
        dsimp only at ho3 hw6 hal hrow
        dsimp only
        (conv => whnf)
        refine IteP.mk (fun hlt => W.mk ?_) (fun hge => W.mk ?_) <;> (conv => whnf)
        · have hlt : o < 3 := by omega
          repeat' (refine OblP.mk ?_ (W.mk ?_); (first | trivial | omega | (simp only [inR]; omega) | exact Nat.le_of_ble_eq_true (by rfl) | exact SlR.some (by assumption) (by omega)); (conv => whnf))
          refine LoopP.of { α := Int × Hdr × List Int × Nat × List Value, fr := fun y => [(1, .v (U x)), (2, .c (.ptr 0 0)), (5, .v (.slice aq nq cq)), (6, .v (I 0)), (7, .v (.slice ap 0 cp)), (8, .v (I 2)), (10, .v (I 2)), (11, .c (.row 63 y.2.2.2.1)), (12, .v (hV y.2.1)), (13, .v (.slice at_ nt ct)), (14, .v (I o)), (15, .v (I y.1))], H := fun y => [(0, .cells .anon (DVC d x0 x1 x2 x3 x4 x5 y0 z0 y1 z1 y2 z2 y3 z3 y4 z4 y5 z5) 27), (63, .row none y.2.2.2.1 y.2.2.2.2 5 1)], ok := fun y G => -1 ≤ y.1 ∧ y.1 < (nt : Int) ∧ SlV u8E G (hV y.2.1) (wI d x o (y.1 + 1).toNat) ∧ y.2.2.1 = inK d o (y.1 + 1).toNat ∧ Row u8E y.2.2.1 y.2.2.2.1 y.2.2.2.2, m := fun y => (y.1 + 1).toNat }
            ((nt : Int) - 1, wt, al, n, vs) (HeadP.of [] ⟨rfl, rfl, rfl, rfl, rfl, rfl, rfl, rfl, rfl, rfl, rfl, rfl, trivial⟩ ⟨rfl, rfl, trivial⟩) ⟨by show -1 ≤ (nt : Int) - 1; omega, by show (nt : Int) - 1 < nt; omega, by show SlV u8E G6 (hV wt) (wI d x o ((nt : Int) - 1 + 1).toNat); rw [wI_end (by omega)]; exact hw6, by show al = inK d o ((nt : Int) - 1 + 1).toNat; rw [inK, anyK_end (by omega), hal]; simp, hrow⟩ (fun _ => ⟨rfl, rfl⟩) (fun y G7 hg7 hx => W.mk ?_)
          clear hrow
          obtain ⟨i, wt, al, n, vs⟩ := y
          obtain ⟨hi1, hi2, hw7, hal7, hrow⟩ := hx
          dsimp only at hi1 hi2 hw7 hal7 hrow
          dsimp only
          (conv => whnf)
          refine IteP.mk (fun hge => W.mk ?_) (fun hlt2 => W.mk ?_) <;> (conv => whnf)
          rotate_left
          · have : i = -1 := by omega
            subst this
            repeat' (refine OblP.mk ?_ (W.mk ?_); (first | trivial | omega | (simp only [inR]; omega) | exact Nat.le_of_ble_eq_true (by rfl) | exact SlR.some (by assumption) (by omega)); (conv => whnf))
            refine RoundP.of (o + 1, wt, al, n, vs) (HeadP.of [] ⟨rfl, rfl, rfl, rfl, rfl, rfl, rfl, rfl, rfl, rfl, rfl, trivial⟩ ⟨rfl, rfl, trivial⟩) ⟨by show o + 1 ≤ 3; omega, ?_, ?_, hrow⟩ (by simp only; omega)
            · show SlV u8E G7 (hV wt) (wK d x (o + 1))
              rw [← wI_zero]; exact hw7
            · dsimp only
              rw [alK_succ hri hlt]; exact hal7
          obtain ⟨k, rfl⟩ : ∃ k : Nat, i = k := ⟨i.toNat, by omega⟩
          have hal7 : al = inK d o (k + 1) := hal7
          have hw7 : SlV u8E G7 (hV wt) (wI d x o (k + 1)) := hw7
          have hk1 : k < hs.length := by omega
          have hk2 : k < (refT d).length := by omega
          have hci := CellsAt.grow (hg6.trans hg7) (hH.el hk1)
          have hfi := refT_fit hri (List.getElem_mem hk2)
          have hsi := hRR.2 k _ _ (List.getElem?_eq_getElem hk1) (List.getElem?_eq_getElem hk2)
          have hwc := wI_cons (d := d) (x := x) (o := o) hk2
          have hac := anyK_cons (d := d) (o := o) hk2
          generalize hs[k] = hh at hsi hci
          generalize (refT d)[k] = t at hfi hsi hwc hac
          obtain ⟨ai, ni, ci⟩ := hh
          have hdv7 := dvRd.grow (hg6.trans hg7) hdv5
          have o1 := ofF_le t hri
          repeat' (first | (refine OblP.mk ?_ (W.mk ?_); (first | trivial | omega | (simp only [inR]; omega) | exact Nat.le_of_ble_eq_true (by rfl) | exact SlR.some (by assumption) (by omega)); (conv => whnf)) | (first | (refine RdP.at (by assumption) (by rfl) (W.mk ?_); (conv => whnf)) | (refine RdP.sub (by assumption) (by rfl) (W.mk ?_); (conv => whnf)) | (refine RdP.sub2 (by assumption) (by rfl) (W.mk ?_); (conv => whnf)) | (refine RdP.sub3 (by assumption) (by rfl) (W.mk ?_); (conv => whnf))))
          refine ScaP.g (ok2 dvRd (slRd u8E) fun d t => Tr d t) (x := (d, t)) ⟨_, _, rfl, hdv7, hsi.grow (hg6.trans hg7), tr_of hri hfw hfi⟩ (fun v hv => W.mk ?_)
          dsimp only at hv
          subst hv
          (conv => whnf)
          refine ScaP.g (ok2 dvRd nmRd fun _ x => 0 ≤ x.a ∧ x.a ≤ 1000 ∧ 0 ≤ x.n ∧ x.n ≤ 1000) (x := (d, ofF d t)) ⟨_, _, rfl, hdv7, rfl, o1⟩ (fun v hv => W.mk ?_)
          dsimp only at hv
          subst hv
          generalize outF d (ofF d t) = oc at hwc hac ⊢
          (conv => whnf)
          repeat' (refine OblP.mk ?_ (W.mk ?_); (first | trivial | omega | (simp only [inR]; omega) | exact Nat.le_of_ble_eq_true (by rfl) | exact SlR.some (by assumption) (by omega)); (conv => whnf))
          refine IteP.mk (fun hoc => W.mk ?_) (fun hoc => W.mk ?_) <;> (conv => whnf)
          rotate_left
          · have hoc : ¬ oc = (o : Int) := hoc
            have hin : inK d o k = inK d o (k + 1) := by rw [inK, inK, hac, decide_eq_false hoc, Bool.false_or]
            repeat' (refine OblP.mk ?_ (W.mk ?_); (first | trivial | omega | (simp only [inR]; omega) | exact Nat.le_of_ble_eq_true (by rfl) | exact SlR.some (by assumption) (by omega)); (conv => whnf))
            refine RoundP.of ((k : Int) - 1, wt, al, n, vs) (HeadP.of [] ⟨rfl, rfl, rfl, rfl, rfl, rfl, rfl, rfl, rfl, rfl, rfl, rfl, trivial⟩ ⟨rfl, rfl, trivial⟩) ⟨by show -1 ≤ (k : Int) - 1; omega, by show (k : Int) - 1 < (nt : Int); omega, ?_, ?_, hrow⟩ (by simp only; omega)
            · show SlV u8E G7 (hV wt) (wI d x o ((k : Int) - 1 + 1).toNat)
              rw [show ((k : Int) - 1 + 1).toNat = k by omega, hwc, if_neg (fun e => hoc e.2)]
              exact hw7
            · dsimp only
              rw [show ((k : Int) - 1 + 1).toNat = k by omega, hin, hal7]
          have hoc : oc = (o : Int) := hoc
          have hin0 : inK d o k = alK d o ++ [(o : Int)] := by rw [inK, hac, decide_eq_true hoc, Bool.true_or]; rfl
          have hl3 := alK_len d o
          have hrn := hrow.n
          have hvs : vs = al.map U := by rw [hrow.vs, mapU_flat]
          subst hvs
          cases hseen : anyK d o (k + 1) with
          | true =>
            have hal8 : al = alK d o ++ [(o : Int)] := by rw [hal7, inK, hseen]; rfl
            have hin : inK d o k = al := by rw [hin0, hal8]
            have hll : al.length = (alK d o).length + 1 := by rw [hal8]; simp
            have hn1 : n - 1 < al.length := by omega
            have hlast : al[n - 1] = (o : Int) := by
              have h1 : al[n - 1]? = some (o : Int) := by rw [hrn, hal8]; simp
              rw [List.getElem?_eq_getElem hn1] at h1
              exact Option.some.inj h1
            refine IteP.mk (fun h => by exfalso; omega) (fun _ => W.mk ?_)
            (conv => whnf)
            repeat' (refine OblP.mk ?_ (W.mk ?_); (first | trivial | omega | (simp only [inR]; omega) | exact Nat.le_of_ble_eq_true (by rfl) | exact SlR.some (by assumption) (by omega)); (conv => whnf))
            refine EqP.mk ⟨_, mapU_at hn1 (by omega), rfl, W.mk ?_⟩
            (conv => whnf)
            repeat' (refine OblP.mk ?_ (W.mk ?_); (first | trivial | omega | (simp only [inR]; omega) | exact Nat.le_of_ble_eq_true (by rfl) | exact SlR.some (by assumption) (by omega)); (conv => whnf))
            refine IteP.mk (fun _ => W.mk ?_) (fun h => absurd hlast h)
            (conv => whnf)
            repeat' (first | (refine OblP.mk ?_ (W.mk ?_); (first | trivial | omega | (simp only [inR]; omega) | exact Nat.le_of_ble_eq_true (by rfl) | exact SlR.some (by assumption) (by omega)); (conv => whnf)) | (first | (refine RdP.at (by assumption) (by rfl) (W.mk ?_); (conv => whnf)) | (refine RdP.sub (by assumption) (by rfl) (W.mk ?_); (conv => whnf)) | (refine RdP.sub2 (by assumption) (by rfl) (W.mk ?_); (conv => whnf)) | (refine RdP.sub3 (by assumption) (by rfl) (W.mk ?_); (conv => whnf))))
            refine IteP.mk (fun c3 => W.mk ?_) (fun c3 => W.mk ?_) <;> (conv => whnf)
            · repeat' (first | (refine OblP.mk ?_ (W.mk ?_); (first | trivial | omega | (simp only [inR]; omega) | exact Nat.le_of_ble_eq_true (by rfl) | exact SlR.some (by assumption) (by omega)); (conv => whnf)) | (first | (refine RdP.at (by assumption) (by rfl) (W.mk ?_); (conv => whnf)) | (refine RdP.sub (by assumption) (by rfl) (W.mk ?_); (conv => whnf)) | (refine RdP.sub2 (by assumption) (by rfl) (W.mk ?_); (conv => whnf)) | (refine RdP.sub3 (by assumption) (by rfl) (W.mk ?_); (conv => whnf))))
              refine RoundP.of ((k : Int) - 1, (ai, ni, ci), al, n, (al.map U)) (HeadP.of [] ⟨rfl, rfl, rfl, rfl, rfl, rfl, rfl, rfl, rfl, rfl, rfl, rfl, trivial⟩ ⟨rfl, rfl, trivial⟩) ⟨by show -1 ≤ (k : Int) - 1; omega, by show (k : Int) - 1 < (nt : Int); omega, ?_, ?_, hrow⟩ (by simp only; omega)
              · show SlV u8E G7 (.slice ai ni ci) (wI d x o ((k : Int) - 1 + 1).toNat)
                rw [show ((k : Int) - 1 + 1).toNat = k by omega, hwc, if_pos ⟨by omega, hoc⟩]
                exact hsi.grow (hg6.trans hg7)
              · dsimp only
                rw [show ((k : Int) - 1 + 1).toNat = k by omega, hin]
            · repeat' (first | (refine OblP.mk ?_ (W.mk ?_); (first | trivial | omega | (simp only [inR]; omega) | exact Nat.le_of_ble_eq_true (by rfl) | exact SlR.some (by assumption) (by omega)); (conv => whnf)) | (first | (refine RdP.at (by assumption) (by rfl) (W.mk ?_); (conv => whnf)) | (refine RdP.sub (by assumption) (by rfl) (W.mk ?_); (conv => whnf)) | (refine RdP.sub2 (by assumption) (by rfl) (W.mk ?_); (conv => whnf)) | (refine RdP.sub3 (by assumption) (by rfl) (W.mk ?_); (conv => whnf))))
              refine RoundP.of ((k : Int) - 1, wt, al, n, (al.map U)) (HeadP.of [] ⟨rfl, rfl, rfl, rfl, rfl, rfl, rfl, rfl, rfl, rfl, rfl, rfl, trivial⟩ ⟨rfl, rfl, trivial⟩) ⟨by show -1 ≤ (k : Int) - 1; omega, by show (k : Int) - 1 < (nt : Int); omega, ?_, ?_, hrow⟩ (by simp only; omega)
              · show SlV u8E G7 (hV wt) (wI d x o ((k : Int) - 1 + 1).toNat)
                rw [show ((k : Int) - 1 + 1).toNat = k by omega, hwc, if_neg (fun e => c3 (by omega))]
                exact hw7
              · dsimp only
                rw [show ((k : Int) - 1 + 1).toNat = k by omega, hin]
          | false =>
            have hal8 : al = alK d o := by rw [hal7, inK, hseen]; simp
            have hin : inK d o k = al ++ [(o : Int)] := by rw [hin0, hal8]
            have hrow2 : Row u8E (al ++ [(o : Int)]) (n + 1) (al.map U ++ [U (o : Int)]) := hrow.snoc (o : Int)
            have hll : al.length ≤ 3 := by rw [hal8]; exact hl3
            refine IteP.mk (fun hz => W.mk ?_) (fun hz => W.mk ?_) <;> (conv => whnf)
            · repeat' (first | (refine OblP.mk rfl (W.mk ?_); (conv => whnf)) | (refine OblP.mk ?_ (W.mk ?_); (first | trivial | omega | (simp only [inR]; omega) | exact Nat.le_of_ble_eq_true (by rfl) | exact SlR.some (by assumption) (by omega)); (conv => whnf)) | (first | (refine RdP.at (by assumption) (by rfl) (W.mk ?_); (conv => whnf)) | (refine RdP.sub (by assumption) (by rfl) (W.mk ?_); (conv => whnf)) | (refine RdP.sub2 (by assumption) (by rfl) (W.mk ?_); (conv => whnf)) | (refine RdP.sub3 (by assumption) (by rfl) (W.mk ?_); (conv => whnf))))
              repeat' (first | (refine OblP.mk ?_ (W.mk ?_); (first | trivial | omega | (simp only [inR]; omega) | exact Nat.le_of_ble_eq_true (by rfl) | exact SlR.some (by assumption) (by omega)); (conv => whnf)) | (first | (refine RdP.at (by assumption) (by rfl) (W.mk ?_); (conv => whnf)) | (refine RdP.sub (by assumption) (by rfl) (W.mk ?_); (conv => whnf)) | (refine RdP.sub2 (by assumption) (by rfl) (W.mk ?_); (conv => whnf)) | (refine RdP.sub3 (by assumption) (by rfl) (W.mk ?_); (conv => whnf))))
              refine IteP.mk (fun c3 => W.mk ?_) (fun c3 => W.mk ?_) <;> (conv => whnf)
              · repeat' (first | (refine OblP.mk ?_ (W.mk ?_); (first | trivial | omega | (simp only [inR]; omega) | exact Nat.le_of_ble_eq_true (by rfl) | exact SlR.some (by assumption) (by omega)); (conv => whnf)) | (first | (refine RdP.at (by assumption) (by rfl) (W.mk ?_); (conv => whnf)) | (refine RdP.sub (by assumption) (by rfl) (W.mk ?_); (conv => whnf)) | (refine RdP.sub2 (by assumption) (by rfl) (W.mk ?_); (conv => whnf)) | (refine RdP.sub3 (by assumption) (by rfl) (W.mk ?_); (conv => whnf))))
                refine RoundP.of ((k : Int) - 1, (ai, ni, ci), (al ++ [(o : Int)]), (n + 1), (al.map U ++ [U (o : Int)])) (HeadP.of [(63, some 106)] ⟨rfl, rfl, rfl, rfl, rfl, rfl, rfl, rfl, rfl, rfl, rfl, rfl, trivial⟩ ⟨rfl, rfl, trivial⟩) ⟨by show -1 ≤ (k : Int) - 1; omega, by show (k : Int) - 1 < (nt : Int); omega, ?_, ?_, hrow2⟩ (by simp only; omega)
                · show SlV u8E G7 (.slice ai ni ci) (wI d x o ((k : Int) - 1 + 1).toNat)
                  rw [show ((k : Int) - 1 + 1).toNat = k by omega, hwc, if_pos ⟨by omega, hoc⟩]
                  exact hsi.grow (hg6.trans hg7)
                · dsimp only
                  rw [show ((k : Int) - 1 + 1).toNat = k by omega, hin]
              · repeat' (first | (refine OblP.mk ?_ (W.mk ?_); (first | trivial | omega | (simp only [inR]; omega) | exact Nat.le_of_ble_eq_true (by rfl) | exact SlR.some (by assumption) (by omega)); (conv => whnf)) | (first | (refine RdP.at (by assumption) (by rfl) (W.mk ?_); (conv => whnf)) | (refine RdP.sub (by assumption) (by rfl) (W.mk ?_); (conv => whnf)) | (refine RdP.sub2 (by assumption) (by rfl) (W.mk ?_); (conv => whnf)) | (refine RdP.sub3 (by assumption) (by rfl) (W.mk ?_); (conv => whnf))))
                refine RoundP.of ((k : Int) - 1, wt, (al ++ [(o : Int)]), (n + 1), (al.map U ++ [U (o : Int)])) (HeadP.of [(63, some 106)] ⟨rfl, rfl, rfl, rfl, rfl, rfl, rfl, rfl, rfl, rfl, rfl, rfl, trivial⟩ ⟨rfl, rfl, trivial⟩) ⟨by show -1 ≤ (k : Int) - 1; omega, by show (k : Int) - 1 < (nt : Int); omega, ?_, ?_, hrow2⟩ (by simp only; omega)
                · show SlV u8E G7 (hV wt) (wI d x o ((k : Int) - 1 + 1).toNat)
                  rw [show ((k : Int) - 1 + 1).toNat = k by omega, hwc, if_neg (fun e => c3 (by omega))]
                  exact hw7
                · dsimp only
                  rw [show ((k : Int) - 1 + 1).toNat = k by omega, hin]
            · have hn1 : n - 1 < al.length := by omega
              have hlast : al[n - 1] ≠ (o : Int) := by
                have h1 := List.getElem_mem hn1
                generalize al[n - 1] = y at h1 ⊢
                rw [hal8] at h1
                have := alK_lt h1
                omega
              repeat' (refine OblP.mk ?_ (W.mk ?_); (first | trivial | omega | (simp only [inR]; omega) | exact Nat.le_of_ble_eq_true (by rfl) | exact SlR.some (by assumption) (by omega)); (conv => whnf))
              refine EqP.mk ⟨_, mapU_at hn1 (by omega), rfl, W.mk ?_⟩
              (conv => whnf)
              repeat' (refine OblP.mk ?_ (W.mk ?_); (first | trivial | omega | (simp only [inR]; omega) | exact Nat.le_of_ble_eq_true (by rfl) | exact SlR.some (by assumption) (by omega)); (conv => whnf))
              refine IteP.mk (fun h => absurd h hlast) (fun _ => W.mk ?_)
              (conv => whnf)
              repeat' (first | (refine OblP.mk rfl (W.mk ?_); (conv => whnf)) | (refine OblP.mk ?_ (W.mk ?_); (first | trivial | omega | (simp only [inR]; omega) | exact Nat.le_of_ble_eq_true (by rfl) | exact SlR.some (by assumption) (by omega)); (conv => whnf)) | (first | (refine RdP.at (by assumption) (by rfl) (W.mk ?_); (conv => whnf)) | (refine RdP.sub (by assumption) (by rfl) (W.mk ?_); (conv => whnf)) | (refine RdP.sub2 (by assumption) (by rfl) (W.mk ?_); (conv => whnf)) | (refine RdP.sub3 (by assumption) (by rfl) (W.mk ?_); (conv => whnf))))
              repeat' (first | (refine OblP.mk ?_ (W.mk ?_); (first | trivial | omega | (simp only [inR]; omega) | exact Nat.le_of_ble_eq_true (by rfl) | exact SlR.some (by assumption) (by omega)); (conv => whnf)) | (first | (refine RdP.at (by assumption) (by rfl) (W.mk ?_); (conv => whnf)) | (refine RdP.sub (by assumption) (by rfl) (W.mk ?_); (conv => whnf)) | (refine RdP.sub2 (by assumption) (by rfl) (W.mk ?_); (conv => whnf)) | (refine RdP.sub3 (by assumption) (by rfl) (W.mk ?_); (conv => whnf))))
              refine IteP.mk (fun c3 => W.mk ?_) (fun c3 => W.mk ?_) <;> (conv => whnf)
              · repeat' (first | (refine OblP.mk ?_ (W.mk ?_); (first | trivial | omega | (simp only [inR]; omega) | exact Nat.le_of_ble_eq_true (by rfl) | exact SlR.some (by assumption) (by omega)); (conv => whnf)) | (first | (refine RdP.at (by assumption) (by rfl) (W.mk ?_); (conv => whnf)) | (refine RdP.sub (by assumption) (by rfl) (W.mk ?_); (conv => whnf)) | (refine RdP.sub2 (by assumption) (by rfl) (W.mk ?_); (conv => whnf)) | (refine RdP.sub3 (by assumption) (by rfl) (W.mk ?_); (conv => whnf))))
                refine RoundP.of ((k : Int) - 1, (ai, ni, ci), (al ++ [(o : Int)]), (n + 1), (al.map U ++ [U (o : Int)])) (HeadP.of [(63, some 106)] ⟨rfl, rfl, rfl, rfl, rfl, rfl, rfl, rfl, rfl, rfl, rfl, rfl, trivial⟩ ⟨rfl, rfl, trivial⟩) ⟨by show -1 ≤ (k : Int) - 1; omega, by show (k : Int) - 1 < (nt : Int); omega, ?_, ?_, hrow2⟩ (by simp only; omega)
                · show SlV u8E G7 (.slice ai ni ci) (wI d x o ((k : Int) - 1 + 1).toNat)
                  rw [show ((k : Int) - 1 + 1).toNat = k by omega, hwc, if_pos ⟨by omega, hoc⟩]
                  exact hsi.grow (hg6.trans hg7)
                · dsimp only
                  rw [show ((k : Int) - 1 + 1).toNat = k by omega, hin]
              · repeat' (first | (refine OblP.mk ?_ (W.mk ?_); (first | trivial | omega | (simp only [inR]; omega) | exact Nat.le_of_ble_eq_true (by rfl) | exact SlR.some (by assumption) (by omega)); (conv => whnf)) | (first | (refine RdP.at (by assumption) (by rfl) (W.mk ?_); (conv => whnf)) | (refine RdP.sub (by assumption) (by rfl) (W.mk ?_); (conv => whnf)) | (refine RdP.sub2 (by assumption) (by rfl) (W.mk ?_); (conv => whnf)) | (refine RdP.sub3 (by assumption) (by rfl) (W.mk ?_); (conv => whnf))))
                refine RoundP.of ((k : Int) - 1, wt, (al ++ [(o : Int)]), (n + 1), (al.map U ++ [U (o : Int)])) (HeadP.of [(63, some 106)] ⟨rfl, rfl, rfl, rfl, rfl, rfl, rfl, rfl, rfl, rfl, rfl, rfl, trivial⟩ ⟨rfl, rfl, trivial⟩) ⟨by show -1 ≤ (k : Int) - 1; omega, by show (k : Int) - 1 < (nt : Int); omega, ?_, ?_, hrow2⟩ (by simp only; omega)
                · show SlV u8E G7 (hV wt) (wI d x o ((k : Int) - 1 + 1).toNat)
                  rw [show ((k : Int) - 1 + 1).toNat = k by omega, hwc, if_neg (fun e => c3 (by omega))]
                  exact hw7
                · dsimp only
                  rw [show ((k : Int) - 1 + 1).toNat = k by omega, hin]
        · have : o = 3 := by omega
          subst this
          rw [alK_all] at hal
          obtain ⟨ba, bn, bc⟩ := wt
          dsimp only [hV]
          have hrn := hrow.n
          have hl3 := alK_len d 3
          rw [alK_all, ← hal] at hl3
          refine IteP.mk (fun _ => W.mk ?_) (fun h => absurd rfl h)
          (conv => whnf)
          refine PubP.mk (fun a8 c8 G8 hg8 hp => W.mk ?_)
          have hA := hrow.pub hp (by omega)
          rw [hal] at hA
          (conv => whnf)
          refine ScaP.g (ok2 (slRd u8E) (slRd u8E) fun _ _ => True) (x := (allowedF d, allowedF d)) ⟨_, _, rfl, SlV.grow (h3.trans (h4.trans (h5.trans (hg6.trans hg8)))) ⟨_, _, _, rfl, hq2, hqn⟩, hA, trivial⟩ (fun v hv => W.mk ?_)
          have hv := hv.trans (congrArg Value.bool (decide_eq_true rfl))
          subst hv
          (conv => whnf)
          refine ForkP.mk (fun _ => W.mk ?_) (fun h => by cases h)
          (conv => whnf)
          repeat' (refine IteP.mk (fun _ => W.mk ?_) (fun _ => W.mk ?_) <;> first | (exfalso; omega) | (conv => whnf))
          refine ScaP.g okU (x := ()) rfl (fun v hv => W.mk ?_)
          subst hv
          (conv => whnf)
          refine ForkP.mk (fun _ => W.mk ?_) (fun h => by cases h)
          (conv => whnf)
          exact FinP.mk rfl
      · have hx2' : ¬ x > 2 := hx2
        refine IteP.mk (fun h => absurd h hx2') (fun _ => W.mk ?_)
        (conv => whnf)
        repeat' (refine IteP.mk (fun _ => W.mk ?_) (fun _ => W.mk ?_) <;> first | (exfalso; omega) | (conv => whnf))
        refine RelP.g (ok2 dvRd (slRd u8E) fun d b => openF d = 0 ∧ b = []) (x := (d, [])) ⟨_, _, rfl, hdv4, SlV.nil, ho, rfl⟩ (Grow.refl _) (fun v G5 h5 hq => W.mk ?_)
        obtain ⟨hs, ⟨at_, nt, ct, rfl, hH, hHn⟩, hRR⟩ := hq
        have hRR : RRs G5 hs (refT d) := hRR
        have hdv5 := dvRd.grow h5 hdv4
        have hri := fault_right (open_fault ho).1
        have hHl := hH.len
        have hRl := hRR.1
        have hrl : (refT d).length ≤ 6561 := trR_len ho (by simp)
        (conv => whnf)
        refine LoopP.of { α := Nat × Hdr × List Int × Nat × List Value, fr := fun y => [(1, .v (U x)), (2, .c (.ptr 0 0)), (5, .v (.slice aq nq cq)), (6, .v (I 0)), (7, .v (.slice ap np cp)), (8, .v (I we)), (10, .v (I 0)), (11, .c (.row 63 y.2.2.2.1)), (12, .v (hV y.2.1)), (13, .v (.slice at_ nt ct)), (14, .v (I y.1))], H := fun y => [(0, .cells .anon (DVC d x0 x1 x2 x3 x4 x5 y0 z0 y1 z1 y2 z2 y3 z3 y4 z4 y5 z5) 27), (63, .row none y.2.2.2.1 y.2.2.2.2 5 1)], ok := fun y G => y.1 ≤ 3 ∧ SlV u8E G (hV y.2.1) (wK d x y.1) ∧ y.2.2.1 = alK d y.1 ∧ Row u8E y.2.2.1 y.2.2.2.1 y.2.2.2.2, m := fun y => 3 - y.1 }
          (0, (none, 0, 0), [], 0, []) (HeadP.of [(63, none)] ⟨rfl, rfl, rfl, rfl, rfl, rfl, rfl, rfl, rfl, rfl, rfl, trivial⟩ ⟨rfl, rfl, trivial⟩) ⟨Nat.zero_le _, by show SlV u8E G5 (.slice none 0 0) (wK d x 0); rw [wK, if_neg (by omega)]; exact SlV.nil, rfl, Row.nil⟩ (fun _ => ⟨rfl, rfl⟩) (fun y G6 hg6 hx => W.mk ?_)
        obtain ⟨o, wt, al, n, vs⟩ := y
        obtain ⟨ho3, hw6, hal, hrow⟩ := hx
        dsimp only at ho3 hw6 hal hrow
        dsimp only
        (conv => whnf)
        refine IteP.mk (fun hlt => W.mk ?_) (fun hge => W.mk ?_) <;> (conv => whnf)
        · have hlt : o < 3 := by omega
          repeat' (refine OblP.mk ?_ (W.mk ?_); (first | trivial | omega | (simp only [inR]; omega) | exact Nat.le_of_ble_eq_true (by rfl) | exact SlR.some (by assumption) (by omega)); (conv => whnf))
          refine LoopP.of { α := Int × Hdr × List Int × Nat × List Value, fr := fun y => [(1, .v (U x)), (2, .c (.ptr 0 0)), (5, .v (.slice aq nq cq)), (6, .v (I 0)), (7, .v (.slice ap np cp)), (8, .v (I we)), (10, .v (I 0)), (11, .c (.row 63 y.2.2.2.1)), (12, .v (hV y.2.1)), (13, .v (.slice at_ nt ct)), (14, .v (I o)), (15, .v (I y.1))], H := fun y => [(0, .cells .anon (DVC d x0 x1 x2 x3 x4 x5 y0 z0 y1 z1 y2 z2 y3 z3 y4 z4 y5 z5) 27), (63, .row none y.2.2.2.1 y.2.2.2.2 5 1)], ok := fun y G => -1 ≤ y.1 ∧ y.1 < (nt : Int) ∧ SlV u8E G (hV y.2.1) (wI d x o (y.1 + 1).toNat) ∧ y.2.2.1 = inK d o (y.1 + 1).toNat ∧ Row u8E y.2.2.1 y.2.2.2.1 y.2.2.2.2, m := fun y => (y.1 + 1).toNat }
            ((nt : Int) - 1, wt, al, n, vs) (HeadP.of [] ⟨rfl, rfl, rfl, rfl, rfl, rfl, rfl, rfl, rfl, rfl, rfl, rfl, trivial⟩ ⟨rfl, rfl, trivial⟩) ⟨by show -1 ≤ (nt : Int) - 1; omega, by show (nt : Int) - 1 < nt; omega, by show SlV u8E G6 (hV wt) (wI d x o ((nt : Int) - 1 + 1).toNat); rw [wI_end (by omega)]; exact hw6, by show al = inK d o ((nt : Int) - 1 + 1).toNat; rw [inK, anyK_end (by omega), hal]; simp, hrow⟩ (fun _ => ⟨rfl, rfl⟩) (fun y G7 hg7 hx => W.mk ?_)
          clear hrow
          obtain ⟨i, wt, al, n, vs⟩ := y
          obtain ⟨hi1, hi2, hw7, hal7, hrow⟩ := hx
          dsimp only at hi1 hi2 hw7 hal7 hrow
          dsimp only
          (conv => whnf)
          refine IteP.mk (fun hge => W.mk ?_) (fun hlt2 => W.mk ?_) <;> (conv => whnf)
          rotate_left
          · have : i = -1 := by omega
            subst this
            repeat' (refine OblP.mk ?_ (W.mk ?_); (first | trivial | omega | (simp only [inR]; omega) | exact Nat.le_of_ble_eq_true (by rfl) | exact SlR.some (by assumption) (by omega)); (conv => whnf))
            refine RoundP.of (o + 1, wt, al, n, vs) (HeadP.of [] ⟨rfl, rfl, rfl, rfl, rfl, rfl, rfl, rfl, rfl, rfl, rfl, trivial⟩ ⟨rfl, rfl, trivial⟩) ⟨by show o + 1 ≤ 3; omega, ?_, ?_, hrow⟩ (by simp only; omega)
            · show SlV u8E G7 (hV wt) (wK d x (o + 1))
              rw [← wI_zero]; exact hw7
            · dsimp only
              rw [alK_succ hri hlt]; exact hal7
          obtain ⟨k, rfl⟩ : ∃ k : Nat, i = k := ⟨i.toNat, by omega⟩
          have hal7 : al = inK d o (k + 1) := hal7
          have hw7 : SlV u8E G7 (hV wt) (wI d x o (k + 1)) := hw7
          have hk1 : k < hs.length := by omega
          have hk2 : k < (refT d).length := by omega
          have hci := CellsAt.grow (hg6.trans hg7) (hH.el hk1)
          have hfi := refT_fit hri (List.getElem_mem hk2)
          have hsi := hRR.2 k _ _ (List.getElem?_eq_getElem hk1) (List.getElem?_eq_getElem hk2)
          have hwc := wI_cons (d := d) (x := x) (o := o) hk2
          have hac := anyK_cons (d := d) (o := o) hk2
          generalize hs[k] = hh at hsi hci
          generalize (refT d)[k] = t at hfi hsi hwc hac
          obtain ⟨ai, ni, ci⟩ := hh
          have hdv7 := dvRd.grow (hg6.trans hg7) hdv5
          have o1 := ofF_le t hri
          repeat' (first | (refine OblP.mk ?_ (W.mk ?_); (first | trivial | omega | (simp only [inR]; omega) | exact Nat.le_of_ble_eq_true (by rfl) | exact SlR.some (by assumption) (by omega)); (conv => whnf)) | (first | (refine RdP.at (by assumption) (by rfl) (W.mk ?_); (conv => whnf)) | (refine RdP.sub (by assumption) (by rfl) (W.mk ?_); (conv => whnf)) | (refine RdP.sub2 (by assumption) (by rfl) (W.mk ?_); (conv => whnf)) | (refine RdP.sub3 (by assumption) (by rfl) (W.mk ?_); (conv => whnf))))
          refine ScaP.g (ok2 dvRd (slRd u8E) fun d t => Tr d t) (x := (d, t)) ⟨_, _, rfl, hdv7, hsi.grow (hg6.trans hg7), tr_of hri hfw hfi⟩ (fun v hv => W.mk ?_)
          dsimp only at hv
          subst hv
          (conv => whnf)
          refine ScaP.g (ok2 dvRd nmRd fun _ x => 0 ≤ x.a ∧ x.a ≤ 1000 ∧ 0 ≤ x.n ∧ x.n ≤ 1000) (x := (d, ofF d t)) ⟨_, _, rfl, hdv7, rfl, o1⟩ (fun v hv => W.mk ?_)
          dsimp only at hv
          subst hv
          generalize outF d (ofF d t) = oc at hwc hac ⊢
          (conv => whnf)
          repeat' (refine OblP.mk ?_ (W.mk ?_); (first | trivial | omega | (simp only [inR]; omega) | exact Nat.le_of_ble_eq_true (by rfl) | exact SlR.some (by assumption) (by omega)); (conv => whnf))
          refine IteP.mk (fun hoc => W.mk ?_) (fun hoc => W.mk ?_) <;> (conv => whnf)
          rotate_left
          · have hoc : ¬ oc = (o : Int) := hoc
            have hin : inK d o k = inK d o (k + 1) := by rw [inK, inK, hac, decide_eq_false hoc, Bool.false_or]
            repeat' (refine OblP.mk ?_ (W.mk ?_); (first | trivial | omega | (simp only [inR]; omega) | exact Nat.le_of_ble_eq_true (by rfl) | exact SlR.some (by assumption) (by omega)); (conv => whnf))
            refine RoundP.of ((k : Int) - 1, wt, al, n, vs) (HeadP.of [] ⟨rfl, rfl, rfl, rfl, rfl, rfl, rfl, rfl, rfl, rfl, rfl, rfl, trivial⟩ ⟨rfl, rfl, trivial⟩) ⟨by show -1 ≤ (k : Int) - 1; omega, by show (k : Int) - 1 < (nt : Int); omega, ?_, ?_, hrow⟩ (by simp only; omega)
            · show SlV u8E G7 (hV wt) (wI d x o ((k : Int) - 1 + 1).toNat)
              rw [show ((k : Int) - 1 + 1).toNat = k by omega, hwc, if_neg (fun e => hoc e.2)]
              exact hw7
            · dsimp only
              rw [show ((k : Int) - 1 + 1).toNat = k by omega, hin, hal7]
          have hoc : oc = (o : Int) := hoc
          have hin0 : inK d o k = alK d o ++ [(o : Int)] := by rw [inK, hac, decide_eq_true hoc, Bool.true_or]; rfl
          have hl3 := alK_len d o
          have hrn := hrow.n
          have hvs : vs = al.map U := by rw [hrow.vs, mapU_flat]
          subst hvs
          cases hseen : anyK d o (k + 1) with
          | true =>
            have hal8 : al = alK d o ++ [(o : Int)] := by rw [hal7, inK, hseen]; rfl
            have hin : inK d o k = al := by rw [hin0, hal8]
            have hll : al.length = (alK d o).length + 1 := by rw [hal8]; simp
            have hn1 : n - 1 < al.length := by omega
            have hlast : al[n - 1] = (o : Int) := by
              have h1 : al[n - 1]? = some (o : Int) := by rw [hrn, hal8]; simp
              rw [List.getElem?_eq_getElem hn1] at h1
              exact Option.some.inj h1
            refine IteP.mk (fun h => by exfalso; omega) (fun _ => W.mk ?_)
            (conv => whnf)
            repeat' (refine OblP.mk ?_ (W.mk ?_); (first | trivial | omega | (simp only [inR]; omega) | exact Nat.le_of_ble_eq_true (by rfl) | exact SlR.some (by assumption) (by omega)); (conv => whnf))
            refine EqP.mk ⟨_, mapU_at hn1 (by omega), rfl, W.mk ?_⟩
            (conv => whnf)
            repeat' (refine OblP.mk ?_ (W.mk ?_); (first | trivial | omega | (simp only [inR]; omega) | exact Nat.le_of_ble_eq_true (by rfl) | exact SlR.some (by assumption) (by omega)); (conv => whnf))
            refine IteP.mk (fun _ => W.mk ?_) (fun h => absurd hlast h)
            (conv => whnf)
            repeat' (first | (refine OblP.mk ?_ (W.mk ?_); (first | trivial | omega | (simp only [inR]; omega) | exact Nat.le_of_ble_eq_true (by rfl) | exact SlR.some (by assumption) (by omega)); (conv => whnf)) | (first | (refine RdP.at (by assumption) (by rfl) (W.mk ?_); (conv => whnf)) | (refine RdP.sub (by assumption) (by rfl) (W.mk ?_); (conv => whnf)) | (refine RdP.sub2 (by assumption) (by rfl) (W.mk ?_); (conv => whnf)) | (refine RdP.sub3 (by assumption) (by rfl) (W.mk ?_); (conv => whnf))))
            refine IteP.mk (fun c3 => W.mk ?_) (fun c3 => W.mk ?_) <;> (conv => whnf)
            · repeat' (first | (refine OblP.mk ?_ (W.mk ?_); (first | trivial | omega | (simp only [inR]; omega) | exact Nat.le_of_ble_eq_true (by rfl) | exact SlR.some (by assumption) (by omega)); (conv => whnf)) | (first | (refine RdP.at (by assumption) (by rfl) (W.mk ?_); (conv => whnf)) | (refine RdP.sub (by assumption) (by rfl) (W.mk ?_); (conv => whnf)) | (refine RdP.sub2 (by assumption) (by rfl) (W.mk ?_); (conv => whnf)) | (refine RdP.sub3 (by assumption) (by rfl) (W.mk ?_); (conv => whnf))))
              refine RoundP.of ((k : Int) - 1, (ai, ni, ci), al, n, (al.map U)) (HeadP.of [] ⟨rfl, rfl, rfl, rfl, rfl, rfl, rfl, rfl, rfl, rfl, rfl, rfl, trivial⟩ ⟨rfl, rfl, trivial⟩) ⟨by show -1 ≤ (k : Int) - 1; omega, by show (k : Int) - 1 < (nt : Int); omega, ?_, ?_, hrow⟩ (by simp only; omega)
              · show SlV u8E G7 (.slice ai ni ci) (wI d x o ((k : Int) - 1 + 1).toNat)
                rw [show ((k : Int) - 1 + 1).toNat = k by omega, hwc, if_pos ⟨by omega, hoc⟩]
                exact hsi.grow (hg6.trans hg7)
              · dsimp only
                rw [show ((k : Int) - 1 + 1).toNat = k by omega, hin]
            · repeat' (first | (refine OblP.mk ?_ (W.mk ?_); (first | trivial | omega | (simp only [inR]; omega) | exact Nat.le_of_ble_eq_true (by rfl) | exact SlR.some (by assumption) (by omega)); (conv => whnf)) | (first | (refine RdP.at (by assumption) (by rfl) (W.mk ?_); (conv => whnf)) | (refine RdP.sub (by assumption) (by rfl) (W.mk ?_); (conv => whnf)) | (refine RdP.sub2 (by assumption) (by rfl) (W.mk ?_); (conv => whnf)) | (refine RdP.sub3 (by assumption) (by rfl) (W.mk ?_); (conv => whnf))))
              refine RoundP.of ((k : Int) - 1, wt, al, n, (al.map U)) (HeadP.of [] ⟨rfl, rfl, rfl, rfl, rfl, rfl, rfl, rfl, rfl, rfl, rfl, rfl, trivial⟩ ⟨rfl, rfl, trivial⟩) ⟨by show -1 ≤ (k : Int) - 1; omega, by show (k : Int) - 1 < (nt : Int); omega, ?_, ?_, hrow⟩ (by simp only; omega)
              · show SlV u8E G7 (hV wt) (wI d x o ((k : Int) - 1 + 1).toNat)
                rw [show ((k : Int) - 1 + 1).toNat = k by omega, hwc, if_neg (fun e => c3 (by omega))]
                exact hw7
              · dsimp only
                rw [show ((k : Int) - 1 + 1).toNat = k by omega, hin]
          | false =>
            have hal8 : al = alK d o := by rw [hal7, inK, hseen]; simp
            have hin : inK d o k = al ++ [(o : Int)] := by rw [hin0, hal8]
            have hrow2 : Row u8E (al ++ [(o : Int)]) (n + 1) (al.map U ++ [U (o : Int)]) := hrow.snoc (o : Int)
            have hll : al.length ≤ 3 := by rw [hal8]; exact hl3
            refine IteP.mk (fun hz => W.mk ?_) (fun hz => W.mk ?_) <;> (conv => whnf)
            · repeat' (first | (refine OblP.mk rfl (W.mk ?_); (conv => whnf)) | (refine OblP.mk ?_ (W.mk ?_); (first | trivial | omega | (simp only [inR]; omega) | exact Nat.le_of_ble_eq_true (by rfl) | exact SlR.some (by assumption) (by omega)); (conv => whnf)) | (first | (refine RdP.at (by assumption) (by rfl) (W.mk ?_); (conv => whnf)) | (refine RdP.sub (by assumption) (by rfl) (W.mk ?_); (conv => whnf)) | (refine RdP.sub2 (by assumption) (by rfl) (W.mk ?_); (conv => whnf)) | (refine RdP.sub3 (by assumption) (by rfl) (W.mk ?_); (conv => whnf))))
              repeat' (first | (refine OblP.mk ?_ (W.mk ?_); (first | trivial | omega | (simp only [inR]; omega) | exact Nat.le_of_ble_eq_true (by rfl) | exact SlR.some (by assumption) (by omega)); (conv => whnf)) | (first | (refine RdP.at (by assumption) (by rfl) (W.mk ?_); (conv => whnf)) | (refine RdP.sub (by assumption) (by rfl) (W.mk ?_); (conv => whnf)) | (refine RdP.sub2 (by assumption) (by rfl) (W.mk ?_); (conv => whnf)) | (refine RdP.sub3 (by assumption) (by rfl) (W.mk ?_); (conv => whnf))))
              refine IteP.mk (fun c3 => W.mk ?_) (fun c3 => W.mk ?_) <;> (conv => whnf)
              · repeat' (first | (refine OblP.mk ?_ (W.mk ?_); (first | trivial | omega | (simp only [inR]; omega) | exact Nat.le_of_ble_eq_true (by rfl) | exact SlR.some (by assumption) (by omega)); (conv => whnf)) | (first | (refine RdP.at (by assumption) (by rfl) (W.mk ?_); (conv => whnf)) | (refine RdP.sub (by assumption) (by rfl) (W.mk ?_); (conv => whnf)) | (refine RdP.sub2 (by assumption) (by rfl) (W.mk ?_); (conv => whnf)) | (refine RdP.sub3 (by assumption) (by rfl) (W.mk ?_); (conv => whnf))))
                refine RoundP.of ((k : Int) - 1, (ai, ni, ci), (al ++ [(o : Int)]), (n + 1), (al.map U ++ [U (o : Int)])) (HeadP.of [(63, some 106)] ⟨rfl, rfl, rfl, rfl, rfl, rfl, rfl, rfl, rfl, rfl, rfl, rfl, trivial⟩ ⟨rfl, rfl, trivial⟩) ⟨by show -1 ≤ (k : Int) - 1; omega, by show (k : Int) - 1 < (nt : Int); omega, ?_, ?_, hrow2⟩ (by simp only; omega)
                · show SlV u8E G7 (.slice ai ni ci) (wI d x o ((k : Int) - 1 + 1).toNat)
                  rw [show ((k : Int) - 1 + 1).toNat = k by omega, hwc, if_pos ⟨by omega, hoc⟩]
                  exact hsi.grow (hg6.trans hg7)
                · dsimp only
                  rw [show ((k : Int) - 1 + 1).toNat = k by omega, hin]
              · repeat' (first | (refine OblP.mk ?_ (W.mk ?_); (first | trivial | omega | (simp only [inR]; omega) | exact Nat.le_of_ble_eq_true (by rfl) | exact SlR.some (by assumption) (by omega)); (conv => whnf)) | (first | (refine RdP.at (by assumption) (by rfl) (W.mk ?_); (conv => whnf)) | (refine RdP.sub (by assumption) (by rfl) (W.mk ?_); (conv => whnf)) | (refine RdP.sub2 (by assumption) (by rfl) (W.mk ?_); (conv => whnf)) | (refine RdP.sub3 (by assumption) (by rfl) (W.mk ?_); (conv => whnf))))
                refine RoundP.of ((k : Int) - 1, wt, (al ++ [(o : Int)]), (n + 1), (al.map U ++ [U (o : Int)])) (HeadP.of [(63, some 106)] ⟨rfl, rfl, rfl, rfl, rfl, rfl, rfl, rfl, rfl, rfl, rfl, rfl, trivial⟩ ⟨rfl, rfl, trivial⟩) ⟨by show -1 ≤ (k : Int) - 1; omega, by show (k : Int) - 1 < (nt : Int); omega, ?_, ?_, hrow2⟩ (by simp only; omega)
                · show SlV u8E G7 (hV wt) (wI d x o ((k : Int) - 1 + 1).toNat)
                  rw [show ((k : Int) - 1 + 1).toNat = k by omega, hwc, if_neg (fun e => c3 (by omega))]
                  exact hw7
                · dsimp only
                  rw [show ((k : Int) - 1 + 1).toNat = k by omega, hin]
            · have hn1 : n - 1 < al.length := by omega
              have hlast : al[n - 1] ≠ (o : Int) := by
                have h1 := List.getElem_mem hn1
                generalize al[n - 1] = y at h1 ⊢
                rw [hal8] at h1
                have := alK_lt h1
                omega
              repeat' (refine OblP.mk ?_ (W.mk ?_); (first | trivial | omega | (simp only [inR]; omega) | exact Nat.le_of_ble_eq_true (by rfl) | exact SlR.some (by assumption) (by omega)); (conv => whnf))
              refine EqP.mk ⟨_, mapU_at hn1 (by omega), rfl, W.mk ?_⟩
              (conv => whnf)
              repeat' (refine OblP.mk ?_ (W.mk ?_); (first | trivial | omega | (simp only [inR]; omega) | exact Nat.le_of_ble_eq_true (by rfl) | exact SlR.some (by assumption) (by omega)); (conv => whnf))
              refine IteP.mk (fun h => absurd h hlast) (fun _ => W.mk ?_)
              (conv => whnf)
              repeat' (first | (refine OblP.mk rfl (W.mk ?_); (conv => whnf)) | (refine OblP.mk ?_ (W.mk ?_); (first | trivial | omega | (simp only [inR]; omega) | exact Nat.le_of_ble_eq_true (by rfl) | exact SlR.some (by assumption) (by omega)); (conv => whnf)) | (first | (refine RdP.at (by assumption) (by rfl) (W.mk ?_); (conv => whnf)) | (refine RdP.sub (by assumption) (by rfl) (W.mk ?_); (conv => whnf)) | (refine RdP.sub2 (by assumption) (by rfl) (W.mk ?_); (conv => whnf)) | (refine RdP.sub3 (by assumption) (by rfl) (W.mk ?_); (conv => whnf))))
              repeat' (first | (refine OblP.mk ?_ (W.mk ?_); (first | trivial | omega | (simp only [inR]; omega) | exact Nat.le_of_ble_eq_true (by rfl) | exact SlR.some (by assumption) (by omega)); (conv => whnf)) | (first | (refine RdP.at (by assumption) (by rfl) (W.mk ?_); (conv => whnf)) | (refine RdP.sub (by assumption) (by rfl) (W.mk ?_); (conv => whnf)) | (refine RdP.sub2 (by assumption) (by rfl) (W.mk ?_); (conv => whnf)) | (refine RdP.sub3 (by assumption) (by rfl) (W.mk ?_); (conv => whnf))))
              refine IteP.mk (fun c3 => W.mk ?_) (fun c3 => W.mk ?_) <;> (conv => whnf)
              · repeat' (first | (refine OblP.mk ?_ (W.mk ?_); (first | trivial | omega | (simp only [inR]; omega) | exact Nat.le_of_ble_eq_true (by rfl) | exact SlR.some (by assumption) (by omega)); (conv => whnf)) | (first | (refine RdP.at (by assumption) (by rfl) (W.mk ?_); (conv => whnf)) | (refine RdP.sub (by assumption) (by rfl) (W.mk ?_); (conv => whnf)) | (refine RdP.sub2 (by assumption) (by rfl) (W.mk ?_); (conv => whnf)) | (refine RdP.sub3 (by assumption) (by rfl) (W.mk ?_); (conv => whnf))))
                refine RoundP.of ((k : Int) - 1, (ai, ni, ci), (al ++ [(o : Int)]), (n + 1), (al.map U ++ [U (o : Int)])) (HeadP.of [(63, some 106)] ⟨rfl, rfl, rfl, rfl, rfl, rfl, rfl, rfl, rfl, rfl, rfl, rfl, trivial⟩ ⟨rfl, rfl, trivial⟩) ⟨by show -1 ≤ (k : Int) - 1; omega, by show (k : Int) - 1 < (nt : Int); omega, ?_, ?_, hrow2⟩ (by simp only; omega)
                · show SlV u8E G7 (.slice ai ni ci) (wI d x o ((k : Int) - 1 + 1).toNat)
                  rw [show ((k : Int) - 1 + 1).toNat = k by omega, hwc, if_pos ⟨by omega, hoc⟩]
                  exact hsi.grow (hg6.trans hg7)
                · dsimp only
                  rw [show ((k : Int) - 1 + 1).toNat = k by omega, hin]
              · repeat' (first | (refine OblP.mk ?_ (W.mk ?_); (first | trivial | omega | (simp only [inR]; omega) | exact Nat.le_of_ble_eq_true (by rfl) | exact SlR.some (by assumption) (by omega)); (conv => whnf)) | (first | (refine RdP.at (by assumption) (by rfl) (W.mk ?_); (conv => whnf)) | (refine RdP.sub (by assumption) (by rfl) (W.mk ?_); (conv => whnf)) | (refine RdP.sub2 (by assumption) (by rfl) (W.mk ?_); (conv => whnf)) | (refine RdP.sub3 (by assumption) (by rfl) (W.mk ?_); (conv => whnf))))
                refine RoundP.of ((k : Int) - 1, wt, (al ++ [(o : Int)]), (n + 1), (al.map U ++ [U (o : Int)])) (HeadP.of [(63, some 106)] ⟨rfl, rfl, rfl, rfl, rfl, rfl, rfl, rfl, rfl, rfl, rfl, rfl, trivial⟩ ⟨rfl, rfl, trivial⟩) ⟨by show -1 ≤ (k : Int) - 1; omega, by show (k : Int) - 1 < (nt : Int); omega, ?_, ?_, hrow2⟩ (by simp only; omega)
                · show SlV u8E G7 (hV wt) (wI d x o ((k : Int) - 1 + 1).toNat)
                  rw [show ((k : Int) - 1 + 1).toNat = k by omega, hwc, if_neg (fun e => c3 (by omega))]
                  exact hw7
                · dsimp only
                  rw [show ((k : Int) - 1 + 1).toNat = k by omega, hin]
        · have : o = 3 := by omega
          subst this
          rw [alK_all] at hal
          obtain ⟨ba, bn, bc⟩ := wt
          dsimp only [hV]
          have hrn := hrow.n
          have hl3 := alK_len d 3
          rw [alK_all, ← hal] at hl3
          refine IteP.mk (fun _ => W.mk ?_) (fun h => absurd rfl h)
          (conv => whnf)
          refine PubP.mk (fun a8 c8 G8 hg8 hp => W.mk ?_)
          have hA := hrow.pub hp (by omega)
          rw [hal] at hA
          (conv => whnf)
          refine ScaP.g (ok2 (slRd u8E) (slRd u8E) fun _ _ => True) (x := (allowedF d, allowedF d)) ⟨_, _, rfl, SlV.grow (h3.trans (h4.trans (h5.trans (hg6.trans hg8)))) ⟨_, _, _, rfl, hq2, hqn⟩, hA, trivial⟩ (fun v hv => W.mk ?_)
          have hv := hv.trans (congrArg Value.bool (decide_eq_true rfl))
          subst hv
          (conv => whnf)
          refine ForkP.mk (fun _ => W.mk ?_) (fun h => by cases h)
          (conv => whnf)
          have hwz := hwe.symm.trans (wit_zero ho (show x ≤ 2 by omega))
          have hwn := wit_nil hri x
          rw [wK, if_pos (by omega), fW_wit hri] at hw6
          have hw8 : SlV u8E G8 (.slice ba bn bc) (witL d x) := hw6.grow hg8
          obtain ⟨_, _, _, e, hB, hBn⟩ := hw6
          cases e
          have hBl : (witL d x).length = bn := hB.len
          refine IteP.mk (fun _ => W.mk ?_) (fun h => absurd rfl h)
          (conv => whnf)
          cases hse : (wtF d x).isSome with
          | false =>
            rw [hse] at hwz hwn
            have hwz : we = 7 := hwz
            have hbz : bn = 0 := by rw [← hBl]; exact hwn.2 rfl
            subst hwz
            have hpl : 0 = np := hpl
            subst hpl
            subst hbz
            repeat' (refine IteP.mk (fun _ => W.mk ?_) (fun _ => W.mk ?_) <;> first | (exfalso; omega) | (conv => whnf))
            refine ScaP.g okU (x := ()) rfl (fun v hv => W.mk ?_)
            subst hv
            (conv => whnf)
            refine ForkP.mk (fun _ => W.mk ?_) (fun h => by cases h)
            (conv => whnf)
            exact FinP.mk rfl
          | true =>
            rw [hse] at hwz hwn
            have hwz : we = 0 := hwz
            have hbz : ¬ bn = 0 := fun h => by have := hwn.1 (by rw [hBl]; exact h); cases this
            subst hwz
            have hp4 : SlR u8E.k u8E.R G4 ap np cp (witL d x) := hp4
            refine IteP.mk (fun h => by exfalso; omega) (fun _ => W.mk ?_)
            (conv => whnf)
            repeat' (refine IteP.mk (fun _ => W.mk ?_) (fun _ => W.mk ?_) <;> first | (exfalso; omega) | (conv => whnf))
            refine ScaP.g (ok2 (slRd u8E) (slRd u8E) fun _ _ => True) (x := (witL d x, witL d x)) ⟨_, _, rfl, SlV.grow (h5.trans (hg6.trans hg8)) ⟨_, _, _, rfl, hp4, hpn⟩, hw8, trivial⟩ (fun v hv => W.mk ?_)
            have hv := hv.trans (congrArg Value.bool (decide_eq_true rfl))
            subst hv
            (conv => whnf)
            refine ForkP.mk (fun _ => W.mk ?_) (fun h => by cases h)
            (conv => whnf)
            refine ScaP.g okU (x := ()) rfl (fun v hv => W.mk ?_)
            subst hv
            (conv => whnf)
            refine ForkP.mk (fun _ => W.mk ?_) (fun h => by cases h)
            (conv => whnf)
            exact FinP.mk rfl
    · rw [if_neg ho] at hq2
      subst hv
      have hql : 0 = nq := hq2.len
      subst hql
      have hne : askE d x ≠ 0 := by
        rw [hae]
        split
        · decide
        · exact ho
      have hask := hask hne
      subst hask
      rw [if_neg hne] at hpl
      have hpl : 0 = np := hpl
      subst hpl
      generalize hoe : openF d = oe at ho hae ⊢
      by_cases hx2 : 2 < x
      · (conv => whnf)
        refine IteP.mk (fun _ => W.mk ?_) (fun h => absurd hx2 h)
        (conv => whnf)
        refine IteP.mk (fun h1 => W.mk ?_) (fun h1 => W.mk ?_)
        · have h1 : oe = 1 := h1
          rw [if_neg (fun e => e.2 h1)] at hae
          rw [hae]
          (conv => whnf)
          repeat' (refine IteP.mk (fun _ => W.mk ?_) (fun _ => W.mk ?_) <;> first | (exfalso; omega) | (conv => whnf))
          refine ScaP.g okU (x := ()) rfl (fun v hv => W.mk ?_)
          subst hv
          (conv => whnf)
          refine ForkP.mk (fun _ => W.mk ?_) (fun h => by cases h)
          (conv => whnf)
          exact FinP.mk rfl
        · have h1 : ¬ oe = 1 := h1
          rw [if_pos ⟨hx2, h1⟩] at hae
          rw [hae]
          (conv => whnf)
          repeat' (refine IteP.mk (fun _ => W.mk ?_) (fun _ => W.mk ?_) <;> first | (exfalso; omega) | (conv => whnf))
          refine ScaP.g okU (x := ()) rfl (fun v hv => W.mk ?_)
          subst hv
          (conv => whnf)
          refine ForkP.mk (fun _ => W.mk ?_) (fun h => by cases h)
          (conv => whnf)
          exact FinP.mk rfl
      · rw [if_neg (fun e => hx2 e.1)] at hae
        rw [hae]
        (conv => whnf)
        refine IteP.mk (fun h => absurd h hx2) (fun _ => W.mk ?_)
        (conv => whnf)
        repeat' (refine IteP.mk (fun _ => W.mk ?_) (fun _ => W.mk ?_) <;> first | (exfalso; omega) | (conv => whnf))
        refine ScaP.g okU (x := ()) rfl (fun v hv => W.mk ?_)
        subst hv
        (conv => whnf)
        refine ForkP.mk (fun _ => W.mk ?_) (fun h => by cases h)
        (conv => whnf)
        exact FinP.mk rfl
end Go.Proofs.Ytgpfejgohclheaa

namespace Go.Proofs.Ytgpfejgohclheaa
open Go.Pal Go.ChangeShapes
theorem u8_val {G : Hp} {v : Value} (h : ∃ x, VR (cdInt .u8) false G v x) : ∃ n, u8Rd.R G v n ∧ 0 ≤ n ∧ n ≤ 255 := by
  obtain ⟨x, e, hr⟩ := h
  simp only [inR] at hr
  simp only [List.cons.injEq, and_true] at e
  exact ⟨x, e, hr.1, by omega⟩
end Go.Proofs.Ytgpfejgohclheaa
