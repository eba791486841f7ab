/- Layer 7: what is drawn: a division with no bounds on its lists; few. Layer 7, plain: the truths that fit are those that are gone through. Layer 7: the drawn values, opened. Layer 7, plain: who is in a pair does not count; at most as many count as there are members in no pair. Layer 7, plain: the answers of the members of a question, as they are told to the tellers. Layer 7: told: a list of a teller in which a member is, or is not. Layer 7: ref.Truths: all truths that fit, as a row of rows. Layer 7: small, of a division of any size. Layer 7, plain: the truths of the reference; whether members decide; the least question by all sets. Layer 7, the first seat: the law TallyBounds. Layer 7, plain: divisions whose lists allow the same votes, or fewer; both tellers agree. Layer 7, the first seat: ready; the law TallyAlike. Layer 7, plain: divisions that allow no more votes: their truths, numbers and outcomes. Layer 7, the first seat: the law TallyKnown. Layer 7, the first seat: a drawn byte and a drawn truth value, opened. -/
import Derived.Test.YtgpfejgohclheaaMJ
import Derived.Test.YtgpfejgohclheaaMC
import Derived.Test.YtgpfejgohclheaaRows
import Derived.Test.YtgpfejgohclheaaME
import Derived.Test.YtgpfejgohclheaaMD
namespace Go.Proofs.Ytgpfejgohclheaa
open Go.Pal
set_option maxRecDepth 100000
def SlU {α : Type} (e : El α) (G : Hp) (v : Value) (l : List α) : Prop := ∃ a n c, v = .slice a n c ∧ SlR e.k e.R G a n c l
theorem SlU.uniq {α : Type} {e : El α} {G : Hp} {v : Value} {x y : List α} (h : SlU e G v x) (h' : SlU e G v y) : x = y := by
  obtain ⟨a, n, c, rfl, h⟩ := h
  obtain ⟨a', n', c', e', h'⟩ := h'
  cases e'
  exact h.uniq (fun cs x y h1 h2 => e.inj (h1.symm.trans h2)) h'
theorem SlU.grow {α : Type} {e : El α} {G G' : Hp} {v : Value} {x : List α} (hg : Grow G G') (h : SlU e G v x) : SlU e G' v x := by
  obtain ⟨a, n, c, rfl, h⟩ := h
  exact ⟨a, n, c, rfl, SlR.grow (G := G) (G' := G') (fun _ _ h => h) h hg⟩
theorem SlU.v {α : Type} {e : El α} {G : Hp} {v : Value} {x : List α} (h : SlU e G v x) (hb : x.length ≤ 140737488355328) : SlV e G v x := by
  obtain ⟨a, n, c, rfl, h⟩ := h
  exact ⟨a, n, c, rfl, h, by rw [← h.len]; exact hb⟩
structure DuC (G : Hp) (w0 w1 w2 w3 w4 w5 : Value) (d : Dv) : Prop where
  a0 : SlU intE G w0 d.a0
  a1 : SlU intE G w1 d.a1
  n0 : SlU intE G w2 d.n0
  n1 : SlU intE G w3 d.n1
  ps : SlU prE G w4 d.ps
  qs : SlU prE G w5 d.qs
theorem DuC.grow {G G' : Hp} {w0 w1 w2 w3 w4 w5 : Value} {d : Dv} (hg : Grow G G') (h : DuC G w0 w1 w2 w3 w4 w5 d) : DuC G' w0 w1 w2 w3 w4 w5 d :=
  ⟨h.a0.grow hg, h.a1.grow hg, h.n0.grow hg, h.n1.grow hg, h.ps.grow hg, h.qs.grow hg⟩
def DuV (G : Hp) (v : Value) (d : Dv) : Prop := ∃ w0 w1 w2 w3 w4 w5, v = .agg #[I d.m, w0, w1, w2, w3, w4, w5, U d.rule, I d.need, I d.quorum, U d.tie] ∧ DuC G w0 w1 w2 w3 w4 w5 d
def duRd : Rd Dv := ⟨DuV, fun {_ _ x y} ⟨w0, w1, w2, w3, w4, w5, h, h1⟩ ⟨v0, v1, v2, v3, v4, v5, h', h1'⟩ => by
    subst h
    simp only [Value.agg.injEq, Array.mk.injEq, List.cons.injEq, Value.int.injEq, true_and, and_true] at h'
    obtain ⟨e1, e2, e3, e4, e5, e6, e7, e8, e9, e10, e11⟩ := h'
    subst e2; subst e3; subst e4; subst e5; subst e6; subst e7
    have k0 := h1.a0.uniq h1'.a0
    have k1 := h1.a1.uniq h1'.a1
    have k2 := h1.n0.uniq h1'.n0
    have k3 := h1.n1.uniq h1'.n1
    have k4 := h1.ps.uniq h1'.ps
    have k5 := h1.qs.uniq h1'.qs
    cases x; cases y; simp_all, fun hg ⟨w0, w1, w2, w3, w4, w5, h, h1⟩ => ⟨w0, w1, w2, w3, w4, w5, h, h1.grow hg⟩⟩
theorem DuC.v {G : Hp} {w0 w1 w2 w3 w4 w5 : Value} {d : Dv} (h : DuC G w0 w1 w2 w3 w4 w5 d) (hf : fewF d = true) : DvC G w0 w1 w2 w3 w4 w5 d := by
  simp only [fewF, Bool.and_eq_true, decide_eq_true_eq] at hf
  obtain ⟨⟨⟨⟨⟨h1, h2⟩, h3⟩, h4⟩, h5⟩, h6⟩ := hf
  exact ⟨h.a0.v (by omega), h.a1.v (by omega), h.n0.v (by omega), h.n1.v (by omega), h.ps.v (by omega), h.qs.v (by omega)⟩
theorem DuV.v {G : Hp} {v : Value} {d : Dv} (h : DuV G v d) (hf : fewF d = true) : DvV G v d := by
  obtain ⟨w0, w1, w2, w3, w4, w5, e, h⟩ := h
  exact ⟨w0, w1, w2, w3, w4, w5, e, h.v hf⟩
theorem few20u : Sound Try.prog 20 id (gsca (args1 duRd fun _ => True) fun d v => v = .bool (fewF d)) := by
  refine comp20.gsca (Tab.nil _) (fun args G s h => ?_) (fun args G d h => ?_)
  · obtain ⟨v, rfl, _⟩ := h; simp
  · obtain ⟨u, rfl, ⟨w0, w1, w2, w3, w4, w5, rfl, hd⟩, _⟩ := h
    obtain ⟨x0, y0, z0, rfl, la0⟩ := id hd.a0
    obtain ⟨x1, y1, z1, rfl, la1⟩ := id hd.a1
    obtain ⟨x2, y2, z2, rfl, ln0⟩ := id hd.n0
    obtain ⟨x3, y3, z3, rfl, ln1⟩ := id hd.n1
    obtain ⟨x4, y4, z4, rfl, lps⟩ := id hd.ps
    obtain ⟨x5, y5, z5, rfl, lqs⟩ := id hd.qs
    have e0 := la0.len
    have e1 := la1.len
    have e2 := ln0.len
    have e3 := ln1.len
    have e4 := lps.len
    have e5 := lqs.len
    (conv => whnf)
    refine LoopP.of { α := Nat, fr := fun x => [(1, .c (.ptr 0 0)), (3, .v (I x))], H := fun _ => [(0, .cells .anon (DVC d x0 x1 x2 x3 x4 x5 y0 z0 y1 z1 y2 z2 y3 z3 y4 z4 y5 z5) 27)], ok := fun i _ => i ≤ 2 ∧ (0 < i → y0 ≤ 45 ∧ y2 ≤ 45) ∧ (1 < i → y1 ≤ 45 ∧ y3 ≤ 45), m := fun x => 2 - x }
      0 (HeadP.of [] ⟨rfl, rfl, trivial⟩ ⟨rfl, trivial⟩) ⟨Nat.zero_le _, fun h => by omega, fun h => by omega⟩ (fun _ => ⟨rfl, rfl⟩) (fun (i : Nat) G' hG hx => W.mk ?_)
    obtain ⟨hi, hx1, hx2⟩ := hx
    dsimp only
    (conv => whnf)
    refine IteP.mk (fun hlt => W.mk ?_) (fun hge => W.mk ?_) <;> (conv => whnf)
    · rcases (by omega : i = 0 ∨ i = 1) with rfl | rfl
      · repeat' (refine OblP.mk ?_ (W.mk ?_); (first | trivial | omega | (simp only [inR]; omega) | exact Nat.le_of_ble_eq_true (by rfl) | exact SlR.some (by assumption) (by omega)); (conv => whnf))
        refine EqsP.mk ⟨[.val (.slice x0 y0 z0)], rfl, rfl, W.mk ?_⟩
        (conv => whnf)
        refine IteP.mk (fun h1 => W.mk ?_) (fun h1 => W.mk ?_) <;> (conv => whnf)
        · refine FinP.mk ?_
          refine congrArg Value.bool ?_
          have : decide (d.a0.length ≤ 45) = false := by simp only [decide_eq_false_iff_not]; omega
          simp [fewF, this]
        · repeat' (refine OblP.mk ?_ (W.mk ?_); (first | trivial | omega | (simp only [inR]; omega) | exact Nat.le_of_ble_eq_true (by rfl) | exact SlR.some (by assumption) (by omega)); (conv => whnf))
          refine EqsP.mk ⟨[.val (.slice x2 y2 z2)], rfl, rfl, W.mk ?_⟩
          (conv => whnf)
          refine IteP.mk (fun h2 => W.mk ?_) (fun h2 => W.mk ?_) <;> (conv => whnf)
          · refine FinP.mk ?_
            refine congrArg Value.bool ?_
            have : decide (d.n0.length ≤ 45) = false := by simp only [decide_eq_false_iff_not]; omega
            simp [fewF, this]
          · repeat' (refine OblP.mk ?_ (W.mk ?_); (first | trivial | omega | (simp only [inR]; omega) | exact Nat.le_of_ble_eq_true (by rfl) | exact SlR.some (by assumption) (by omega)); (conv => whnf))
            refine RoundP.of 1 (HeadP.of [] ⟨rfl, rfl, trivial⟩ ⟨rfl, trivial⟩) ⟨by show (1 : Nat) ≤ 2; omega, fun _ => by omega, fun h => by exact absurd h (by show ¬ (1 < 1); omega)⟩ (by simp only; omega)
      · repeat' (refine OblP.mk ?_ (W.mk ?_); (first | trivial | omega | (simp only [inR]; omega) | exact Nat.le_of_ble_eq_true (by rfl) | exact SlR.some (by assumption) (by omega)); (conv => whnf))
        refine EqsP.mk ⟨[.val (.slice x1 y1 z1)], rfl, rfl, W.mk ?_⟩
        (conv => whnf)
        have hx1 := hx1 (by omega)
        refine IteP.mk (fun h1 => W.mk ?_) (fun h1 => W.mk ?_) <;> (conv => whnf)
        · refine FinP.mk ?_
          refine congrArg Value.bool ?_
          have : decide (d.a1.length ≤ 45) = false := by simp only [decide_eq_false_iff_not]; omega
          simp [fewF, this]
        · repeat' (refine OblP.mk ?_ (W.mk ?_); (first | trivial | omega | (simp only [inR]; omega) | exact Nat.le_of_ble_eq_true (by rfl) | exact SlR.some (by assumption) (by omega)); (conv => whnf))
          refine EqsP.mk ⟨[.val (.slice x3 y3 z3)], rfl, rfl, W.mk ?_⟩
          (conv => whnf)
          refine IteP.mk (fun h2 => W.mk ?_) (fun h2 => W.mk ?_) <;> (conv => whnf)
          · refine FinP.mk ?_
            refine congrArg Value.bool ?_
            have : decide (d.n1.length ≤ 45) = false := by simp only [decide_eq_false_iff_not]; omega
            simp [fewF, this]
          · repeat' (refine OblP.mk ?_ (W.mk ?_); (first | trivial | omega | (simp only [inR]; omega) | exact Nat.le_of_ble_eq_true (by rfl) | exact SlR.some (by assumption) (by omega)); (conv => whnf))
            refine RoundP.of 2 (HeadP.of [] ⟨rfl, rfl, trivial⟩ ⟨rfl, trivial⟩) ⟨by show (2 : Nat) ≤ 2; omega, fun _ => hx1, fun _ => by omega⟩ (by simp only; omega)
    · have : i = 2 := by omega
      subst this
      have hx1 := hx1 (by omega)
      have hx2 := hx2 (by omega)
      have d0 : decide (d.a0.length ≤ 45) = true := by simp only [decide_eq_true_eq]; omega
      have d1 : decide (d.a1.length ≤ 45) = true := by simp only [decide_eq_true_eq]; omega
      have d2 : decide (d.n0.length ≤ 45) = true := by simp only [decide_eq_true_eq]; omega
      have d3 : decide (d.n1.length ≤ 45) = true := by simp only [decide_eq_true_eq]; omega
      refine IteP.mk (fun h1 => W.mk ?_) (fun h1 => W.mk ?_) <;> (conv => whnf)
      · have d4 : decide (d.ps.length ≤ 12) = true := by simp only [decide_eq_true_eq]; omega
        refine IteP.mk (fun h2 => W.mk ?_) (fun h2 => W.mk ?_) <;> (conv => whnf) <;> refine FinP.mk ?_ <;> refine congrArg Value.bool ?_
        · have d5 : decide (d.qs.length ≤ 12) = true := by simp only [decide_eq_true_eq]; omega
          simp [fewF, d0, d1, d2, d3, d4, d5]
        · have d5 : decide (d.qs.length ≤ 12) = false := by simp only [decide_eq_false_iff_not]; omega
          simp [fewF, d5]
      · refine FinP.mk ?_
        refine congrArg Value.bool ?_
        have d4 : decide (d.ps.length ≤ 12) = false := by simp only [decide_eq_false_iff_not]; omega
        simp [fewF, d4]
end Go.Proofs.Ytgpfejgohclheaa

namespace Go.Proofs.Ytgpfejgohclheaa
open Go.Pal
theorem trK_mem {may : Nat → List Int} : ∀ r m f g, (∀ j, m ≤ j → j < m + r → g j ∈ may j) → (∀ j, j < m ∨ m + r ≤ j → g j = f j) → g ∈ trK may r m f
  | 0, m, f, g, _, h2 => by
    simp only [trK, List.mem_singleton]
    funext j
    exact h2 j (by omega)
  | r + 1, m, f, g, h1, h2 => by
    simp only [trK, List.mem_flatMap]
    refine ⟨g m, h1 m (by omega) (by omega), trK_mem r (m + 1) _ g (fun j a b => h1 j (by omega) (by omega)) (fun j hj => ?_)⟩
    by_cases hjm : j = m
    · subst hjm; rw [if_pos rfl]
    · rw [if_neg hjm]; exact h2 j (by omega)
theorem tru_mem {d : Dv} (hr : rightD d = true) {g : Nat → Int} : g ∈ truL (lookF d) ↔ (∀ k, k < d.m.toNat → g k ∈ votesF d k) ∧ ∀ k, d.m.toNat ≤ k → g k = 0 := by
  have hm := right_m hr
  constructor
  · intro h
    obtain ⟨h1, h2⟩ := trK_spec _ _ _ _ h
    refine ⟨fun k hk => ?_, fun k hk => h2 k (.inr (by show 0 + d.m.toNat ≤ k; omega))⟩
    have := h1 k (Nat.zero_le _) (by show k < 0 + d.m.toNat; omega)
    rwa [mayL, may_look hm.2 hk] at this
  · rintro ⟨h1, h2⟩
    refine trK_mem _ _ _ _ (fun j _ hj => ?_) (fun j hj => ?_)
    · have hj : j < 0 + d.m.toNat := hj
      rw [mayL, may_look hm.2 (by omega)]
      exact h1 j (by omega)
    · have hj : j < 0 ∨ 0 + d.m.toNat ≤ j := hj
      exact h2 j (by omega)

/-- A truth, as it is counted. -/
def Fit (d : Dv) (t : List Int) : Prop := (t.length : Int) = d.m ∧ ∀ k, k < t.length → t.getD k 0 ∈ votesF d k
theorem Fit.tru {d : Dv} {t : List Int} (hr : rightD d = true) (h : Fit d t) : (fun k => t.getD k 0) ∈ truL (lookF d) := by
  obtain ⟨h1, h2⟩ := h
  refine (tru_mem hr).2 ⟨fun k hk => h2 k (by omega), fun k hk => ?_⟩
  show t.getD k 0 = 0
  rw [List.getD_eq_getElem?_getD, List.getElem?_eq_none (by omega)]; rfl
theorem Fit.of {d : Dv} {t : List Int} (hr : rightD d = true) : ofF d (trT fun k => t.getD k 0) = ofF d t :=
  ofF_ext hr fun k hk => by have := right_m hr; exact trT_get (by omega)
theorem Fit.nums {d : Dv} {t : List Int} (hr : rightD d = true) (h : Fit d t) : ofF d t ∈ numsF d :=
  List.mem_map.2 ⟨_, h.tru hr, Fit.of hr⟩
theorem Fit.outs {d : Dv} {t : List Int} (hr : rightD d = true) (h : Fit d t) : outF d (ofF d t) ∈ outsF d :=
  List.mem_map.2 ⟨_, h.tru hr, by show outF d (ofF d (trT _)) = _; rw [Fit.of hr]⟩
theorem fault_clash {d : Dv} (h : faultF d = 0) : rightD d = true ∧ clashF d < 0 := by
  refine ⟨fault_right h, ?_⟩
  rw [faultF, fault_right h] at h
  simpa using h
theorem allowed_mem {d : Dv} {o : Int} : o ∈ allowedF d ↔ o ∈ outsF d := by
  simp only [allowedF, List.mem_filter, List.mem_cons, List.not_mem_nil, or_false]
  constructor
  · rintro ⟨_, h⟩; simpa using h
  · intro h
    refine ⟨?_, by simpa using h⟩
    simp only [outsF, List.mem_map] at h
    obtain ⟨f, _, rfl⟩ := h
    exact outF_012 d _
end Go.Proofs.Ytgpfejgohclheaa

namespace Go.Proofs.Ytgpfejgohclheaa
open Go.Pal Go.ChangeShapes

theorem SlR.map {α β : Type} {k : Nat} {R : Hp → List Value → α → Prop} {R' : Hp → List Value → β → Prop} {G : Hp} {a : Option Addr} {n c : Nat} {l : List α} (f : α → β) (hf : ∀ cs x, R G cs x → R' G cs (f x)) (h : SlR k R G a n c l) : SlR k R' G a n c (l.map f) :=
  ⟨by rw [List.length_map, h.len], h.cap, h.some, fun i hi => by
    obtain ⟨cs, h1, h2, h3⟩ := h.at_ i (by simpa using hi)
    exact ⟨cs, h1, h2, by rw [List.getElem_map]; exact hf _ _ h3⟩⟩
theorem udl3 : Try.prog.underlying 3 = some (.int .i64) := by kernel_rfl
theorem udl5 : Try.prog.underlying 5 = some (.int .u8) := by kernel_rfl
theorem o3 : Opens Try.prog 3 (cdInt .i64) := .int udl3
theorem o5 : Opens Try.prog 5 (cdInt .u8) := .int udl5
theorem o4 : Opens Try.prog 4 cdBool := .bool (by kernel_rfl)
theorem o22 : Opens Try.prog 22 (cdSl (cdInt .i64)) := .slice (e := 3) (by kernel_rfl) o3 (by decide)
abbrev cdTwo := cdPair (cdSl (cdInt .i64)) (cdPair (cdSl (cdInt .i64)) cdUnit)
theorem o23 : Opens Try.prog 23 cdTwo := .two (e := 22) (by kernel_rfl) o22 (by kernel_rfl)
abbrev cdPr := cdPair (cdInt .i64) (cdPair (cdInt .i64) cdUnit)
theorem o82 : Opens Try.prog 82 cdPr := .struct (fs := [(3, 0), (3, 1)]) (by kernel_rfl) (by kernel_rfl) (OpensF.cons o3 (OpensF.cons o3 OpensF.nil))
theorem o83 : Opens Try.prog 83 cdPr := .struct (fs := [(3, 0), (3, 1)]) (by kernel_rfl) (by kernel_rfl) (OpensF.cons o3 (OpensF.cons o3 OpensF.nil))
theorem o24 : Opens Try.prog 24 (cdSl cdPr) := .slice (e := 82) (by kernel_rfl) o82 (by decide)
theorem o25 : Opens Try.prog 25 (cdSl cdPr) := .slice (e := 83) (by kernel_rfl) o83 (by decide)
abbrev cdDv := cdPair (cdInt .i64) (cdPair cdTwo (cdPair cdTwo (cdPair (cdSl cdPr) (cdPair (cdSl cdPr) (cdPair (cdInt .u8) (cdPair (cdInt .i64) (cdPair (cdInt .i64) (cdPair (cdInt .u8) cdUnit))))))))
theorem o27 : Opens Try.prog 27 cdDv := .struct (fs := [(3, 0), (23, 1), (23, 3), (24, 5), (25, 6), (5, 7), (3, 8), (3, 9), (5, 10)]) (by kernel_rfl) (by kernel_rfl) (OpensF.cons o3 (OpensF.cons o23 (OpensF.cons o23 (OpensF.cons o24 (OpensF.cons o25 (OpensF.cons o5 (OpensF.cons o3 (OpensF.cons o3 (OpensF.cons o5 OpensF.nil)))))))))
theorem pr_cd {G : Hp} {cs : List Value} {x} (h : cdPr.R G cs x) : prE.R G cs (x.1, x.2.1) := by
  obtain ⟨_, _, rfl, ⟨rfl, _⟩, _, _, rfl, ⟨rfl, _⟩, rfl⟩ := h; rfl
theorem dv_val {G : Hp} {v : Value} (h : ∃ x, VR cdDv true G v x) : ∃ d, DuV G v d ∧ rul d := by
  obtain ⟨x, cs, rfl, _, _, e, ⟨rfl, _⟩, _, _, rfl, ⟨_, _, rfl, ⟨a0, n0, c0, rfl, h0, _⟩, _, _, rfl, ⟨a1, n1, c1, rfl, h1, _⟩, rfl⟩, _, _, rfl, ⟨_, _, rfl, ⟨a2, n2, c2, rfl, h2, _⟩, _, _, rfl, ⟨a3, n3, c3, rfl, h3, _⟩, rfl⟩,
    _, _, rfl, ⟨a4, n4, c4, rfl, h4, _⟩, _, _, rfl, ⟨a5, n5, c5, rfl, h5, _⟩, _, _, rfl, ⟨rfl, hr⟩, _, _, rfl, ⟨rfl, _⟩, _, _, rfl, ⟨rfl, _⟩, _, _, rfl, ⟨rfl, _⟩, rfl⟩ := h
  have hi : ∀ (cs : List Value) x, (cdInt .i64).R G cs x → intE.R G cs (id x) := fun _ _ h => h.1
  refine ⟨⟨x.1, x.2.1.1, x.2.1.2.1, x.2.2.1.1, x.2.2.1.2.1, x.2.2.2.1.map fun p => (p.1, p.2.1), x.2.2.2.2.1.map fun p => (p.1, p.2.1), x.2.2.2.2.2.1, x.2.2.2.2.2.2.1, x.2.2.2.2.2.2.2.1, x.2.2.2.2.2.2.2.2.1⟩,
    ⟨.slice a0 n0 c0, .slice a1 n1 c1, .slice a2 n2 c2, .slice a3 n3 c3, .slice a4 n4 c4, .slice a5 n5 c5, ?_, ⟨a0, n0, c0, rfl, ?_⟩, ⟨a1, n1, c1, rfl, ?_⟩, ⟨a2, n2, c2, rfl, ?_⟩, ⟨a3, n3, c3, rfl, ?_⟩, ⟨a4, n4, c4, rfl, SlR.map _ (fun _ _ h => pr_cd h) h4⟩, ⟨a5, n5, c5, rfl, SlR.map _ (fun _ _ h => pr_cd h) h5⟩⟩, ?_⟩
  · simp at e
    exact congrArg Value.agg (Array.toList_inj.1 e)
  · have := SlR.map id hi h0; rwa [List.map_id] at this
  · have := SlR.map id hi h1; rwa [List.map_id] at this
  · have := SlR.map id hi h2; rwa [List.map_id] at this
  · have := SlR.map id hi h3; rwa [List.map_id] at this
  · simp only [inR] at hr
    exact ⟨hr.1, by have := hr.2; show _ ≤ _; omega⟩
theorem ownK : ownKnob Try.checked.prog.godebug = none := by kernel_rfl
theorem laidK : laidOutB Try.checked.prog = true := by kernel_rfl
theorem boolK : Try.checked.prog.underlying 4 = some .bool := by kernel_rfl
abbrev dv0 : Value := .agg #[.int .i64 0, .slice none 0 0, .slice none 0 0, .slice none 0 0, .slice none 0 0, .slice none 0 0, .slice none 0 0, .int .u8 0, .int .i64 0, .int .i64 0, .int .u8 0]
end Go.Proofs.Ytgpfejgohclheaa

namespace Go.Proofs.Ytgpfejgohclheaa
open Go.Pal
def C3.two (c : C3) : Int := c.c1 + c.c2
end Go.Proofs.Ytgpfejgohclheaa

namespace Go.Proofs.Ytgpfejgohclheaa
open Go.Pal
def toldF (l : List Int) (m : Int) (b : Bool) : List Int := l.filter (fun x => decide (x < m)) ++ (if b then [m] else []) ++ l.filter (fun x => decide (m < x))
theorem told_mem {l : List Int} {m : Int} {b : Bool} {y : Int} : y ∈ toldF l m b ↔ if y = m then b = true else y ∈ l := by
  simp only [toldF, List.mem_append, List.mem_filter, decide_eq_true_eq]
  by_cases h : y = m
  · subst h; rw [if_pos rfl]; cases b <;> simp
  · rw [if_neg h]
    have hb : ¬ y ∈ (if b = true then [m] else []) := by cases b <;> simp [h]
    constructor
    · rintro ((⟨h1, _⟩ | h1) | ⟨h1, _⟩)
      · exact h1
      · exact absurd h1 hb
      · exact h1
    · intro h1
      rcases (by omega : y < m ∨ m < y) with h2 | h2
      · exact .inl (.inl ⟨h1, h2⟩)
      · exact .inr ⟨h1, h2⟩
theorem told_has {l : List Int} {m : Int} {b : Bool} {y : Int} : (toldF l m b).contains y = if y = m then b else l.contains y := by
  rw [Bool.eq_iff_iff, List.contains_iff_mem, told_mem]
  split
  · rfl
  · rw [List.contains_iff_mem]
theorem gd0 {l : List Int} {k : Nat} (h : k < l.length) : l.getD k 0 = l[k] := by simp [h]
theorem ris_pw {l : List Int} : risF l = true ↔ l.Pairwise (· < ·) := by
  rw [List.pairwise_iff_getElem]
  constructor
  · intro h
    have h : ∀ k, k + 1 < l.length → l.getD k 0 < l.getD (k + 1) 0 := by
      intro k hk
      simp only [risF, List.all_eq_true, List.mem_range, decide_eq_true_eq] at h
      exact h k (by omega)
    intro i j hi hj hij
    have key : ∀ n, ∀ hn : i + n + 1 < l.length, l[i] < l[i + n + 1] := by
      intro n
      induction n with
      | zero => intro hn; have := h i hn; rwa [gd0 (by omega), gd0 hn] at this
      | succ n ih =>
        intro hn
        have h1 := ih (by omega)
        have h2 := h (i + n + 1) (by omega)
        rw [gd0 (by omega), gd0 (by omega)] at h2
        exact Int.lt_trans h1 h2
    have := key (j - i - 1) (by omega)
    have e : i + (j - i - 1) + 1 = j := by omega
    simpa only [e] using this
  · intro h
    exact ris_true fun k hk => by rw [gd0 (by omega), gd0 hk]; exact h _ _ _ _ (by omega)
theorem told_pw {l : List Int} {m : Int} {b : Bool} (h : l.Pairwise (· < ·)) : (toldF l m b).Pairwise (· < ·) := by
  rw [toldF, List.pairwise_append, List.pairwise_append]
  refine ⟨⟨h.filter _, by cases b <;> simp, fun x hx y hy => ?_⟩, h.filter _, fun x hx y hy => ?_⟩
  · have h1 := (List.mem_filter.1 hx).2
    simp only [decide_eq_true_eq] at h1
    cases b
    · simp at hy
    · simp at hy; subst hy; exact h1
  · have h2 := (List.mem_filter.1 hy).2
    simp only [decide_eq_true_eq] at h2
    rcases List.mem_append.1 hx with hx | hx
    · have h1 := (List.mem_filter.1 hx).2
      simp only [decide_eq_true_eq] at h1
      omega
    · cases b
      · simp at hx
      · simp at hx; subst hx; exact h2
theorem inF_iff {x a b : Int} : inF x a b = true ↔ a ≤ x ∧ x ≤ b := by simp [inF]
theorem list_iff {m : Int} {l : List Int} : listF m l = true ↔ (∀ x ∈ l, 0 ≤ x ∧ x < m) ∧ l.Pairwise (· < ·) := by
  rw [listF, Bool.and_eq_true, ris_pw, List.all_eq_true]
  constructor
  · rintro ⟨h1, h2⟩; exact ⟨fun x hx => by have := inF_iff.1 (h1 x hx); omega, h2⟩
  · rintro ⟨h1, h2⟩; exact ⟨fun x hx => inF_iff.2 (by have := h1 x hx; omega), h2⟩
theorem told_list {m x : Int} {l : List Int} {b : Bool} (h : listF m l = true) (h0 : 0 ≤ x) (h1 : x < m) : listF m (toldF l x b) = true := by
  obtain ⟨h2, h3⟩ := list_iff.1 h
  refine list_iff.2 ⟨fun y hy => ?_, told_pw h3⟩
  have := told_mem.1 hy
  split at this
  · omega
  · exact h2 y this
/-- A member's vote, on both lists or on none. -/
def ansD (t : List Int) (d : Dv) (x : Int) : Dv := { d with a0 := toldF d.a0 x (decide (t.getD x.toNat 0 = 1)), a1 := toldF d.a1 x (decide (t.getD x.toNat 0 = 1)), n0 := toldF d.n0 x (decide (t.getD x.toNat 0 = 2)), n1 := toldF d.n1 x (decide (t.getD x.toNat 0 = 2)) }
theorem right_lists {d : Dv} (h : rightD d = true) : listF d.m d.a0 = true ∧ listF d.m d.a1 = true ∧ listF d.m d.n0 = true ∧ listF d.m d.n1 = true := by
  simp only [rightD, Bool.and_eq_true] at h
  obtain ⟨⟨⟨⟨⟨⟨h1, h2⟩, h3⟩, h4⟩, h5⟩, h6⟩, h7⟩ := h
  exact ⟨h2, h4, h3, h5⟩
theorem ans_right {t : List Int} {d : Dv} {x : Int} (h : rightD d = true) (h0 : 0 ≤ x) (hm : x < d.m) : rightD (ansD t d x) = true := by
  simp only [rightD, Bool.and_eq_true] at h ⊢
  obtain ⟨⟨⟨⟨⟨⟨h1, h2⟩, h3⟩, h4⟩, h5⟩, h6⟩, h7⟩ := h
  exact ⟨⟨⟨⟨⟨⟨h1, told_list h2 h0 hm⟩, told_list h3 h0 hm⟩, told_list h4 h0 hm⟩, told_list h5 h0 hm⟩, h6⟩, h7⟩
theorem ans_ona {t : List Int} {d : Dv} {x y : Int} : onF (ansD t d x).a y = if y = x then (if t.getD x.toNat 0 = 1 then 2 else 0) else onF d.a y := by
  show b2 ((toldF d.a0 x _).contains y) + b2 ((toldF d.a1 x _).contains y) = _
  rw [told_has, told_has]
  by_cases h : y = x
  · rw [if_pos h, if_pos h, if_pos h]
    by_cases h1 : t.getD x.toNat 0 = 1
    · rw [if_pos h1, decide_eq_true h1]; rfl
    · rw [if_neg h1, decide_eq_false h1]; rfl
  · rw [if_neg h, if_neg h, if_neg h]; rfl
theorem ans_onn {t : List Int} {d : Dv} {x y : Int} : onF (ansD t d x).n y = if y = x then (if t.getD x.toNat 0 = 2 then 2 else 0) else onF d.n y := by
  show b2 ((toldF d.n0 x _).contains y) + b2 ((toldF d.n1 x _).contains y) = _
  rw [told_has, told_has]
  by_cases h : y = x
  · rw [if_pos h, if_pos h, if_pos h]
    by_cases h1 : t.getD x.toNat 0 = 2
    · rw [if_pos h1, decide_eq_true h1]; rfl
    · rw [if_neg h1, decide_eq_false h1]; rfl
  · rw [if_neg h, if_neg h, if_neg h]; rfl
theorem ans_votes {t : List Int} {d : Dv} {x y : Int} (ht : t.getD x.toNat 0 = 0 ∨ t.getD x.toNat 0 = 1 ∨ t.getD x.toNat 0 = 2) : votesF (ansD t d x) y = if y = x then [t.getD x.toNat 0] else votesF d y := by
  simp only [votesF, mayF, ans_ona, ans_onn]
  by_cases h : y = x
  · simp only [if_pos h]
    rcases ht with h | h | h <;> rw [h] <;> decide
  · simp only [if_neg h]
theorem ans_cla {t : List Int} {d : Dv} {x : Int} {k : Nat} (h : cla d k = false) : cla (ansD t d x) k = false := by
  simp only [cla, ans_ona, ans_onn]
  by_cases h1 : (k : Int) = x
  · simp only [if_pos h1]
    by_cases h2 : t.getD x.toNat 0 = 1
    · rw [h2]; decide
    · rw [if_neg h2]; simp
  · simp only [if_neg h1]; exact h
theorem fault_iff {d : Dv} : faultF d = 0 ↔ rightD d = true ∧ ∀ k, k < d.m.toNat → cla d k = false := by
  constructor
  · intro h
    obtain ⟨hr, hc⟩ := fault_clash h
    refine ⟨hr, fun k hk => ?_⟩
    unfold clashF at hc
    split at hc
    · omega
    · rename_i hn
      rw [List.find?_eq_none] at hn
      have := hn k (List.mem_range.2 hk)
      simpa using this
  · rintro ⟨hr, hc⟩
    have : (List.range d.m.toNat).find? (cla d) = none := by
      rw [List.find?_eq_none]
      intro k hk
      rw [hc k (List.mem_range.1 hk)]; simp
    rw [faultF, hr, clashF, this]; rfl
theorem cntK_votes (d : Dv) (m : Int) : cntK d m 3 = (votesF d m).length := by
  simp only [cntK, votesF, List.length_append]
  cases mayF d m (0 : Nat) <;> cases mayF d m (1 : Nat) <;> cases mayF d m (2 : Nat) <;> simp_all [b2]
theorem dbt_votes (d : Dv) (m : Nat) : dbt d m = decide (1 < (votesF d m).length) := by
  rw [dbt, cntK_votes]
  congr 1
  rw [eq_iff_iff]; omega
theorem doubts_len (d : Dv) : (doubtsF d).length = (List.range d.m.toNat).countP (dbt d) := by
  rw [doubtsF, dK, List.length_map, List.countP_eq_length_filter]
theorem ans_open {t : List Int} {d : Dv} {x : Int} (ho : openF d = 0) (h0 : 0 ≤ x) (hm : x < d.m) (ht : t.getD x.toNat 0 = 0 ∨ t.getD x.toNat 0 = 1 ∨ t.getD x.toNat 0 = 2) : openF (ansD t d x) = 0 := by
  obtain ⟨hf, h8⟩ := open_fault ho
  obtain ⟨hr, hc⟩ := fault_iff.1 hf
  have hf' : faultF (ansD t d x) = 0 := fault_iff.2 ⟨ans_right hr h0 hm, fun k hk => ans_cla (hc k hk)⟩
  have hl : (doubtsF (ansD t d x)).length ≤ (doubtsF d).length := by
    rw [doubts_len, doubts_len]
    refine List.countP_mono_left fun k _ hk => ?_
    rw [dbt_votes, ans_votes ht] at hk
    rw [dbt_votes]
    split at hk
    · simp at hk
    · exact hk
  rw [openF, if_neg (by omega), hf']
/-- A division after the answers of some members. -/
structure Ansd (t : List Int) (d0 d : Dv) (q : List Int) : Prop where
  same : d = { d0 with a0 := d.a0, a1 := d.a1, n0 := d.n0, n1 := d.n1 }
  op : openF d = 0
  vt : ∀ y, votesF d y = if y ∈ q then [t.getD y.toNat 0] else votesF d0 y
theorem Ansd.nil {t : List Int} {d : Dv} (h : openF d = 0) : Ansd t d d [] := ⟨rfl, h, fun y => by simp⟩
theorem Ansd.snoc {t : List Int} {d0 d : Dv} {q : List Int} {x : Int} (h : Ansd t d0 d q) (h0 : 0 ≤ x) (hm : x < d0.m) (ht : t.getD x.toNat 0 = 0 ∨ t.getD x.toNat 0 = 1 ∨ t.getD x.toNat 0 = 2) : Ansd t d0 (ansD t d x) (q ++ [x]) := by
  have em : d.m = d0.m := by rw [h.same]
  refine ⟨?_, ans_open h.op h0 (by omega) ht, fun y => ?_⟩
  · have := h.same
    unfold ansD
    generalize d.a0 = a at *
    generalize d.a1 = a at *
    generalize d.n0 = a at *
    generalize d.n1 = a at *
    subst this
    rfl
  · rw [ans_votes ht, h.vt]
    by_cases hy : y = x
    · subst hy; simp
    · simp [hy]
theorem ofK_lists (d : Dv) (a b c e : List Int) (t : List Int) : ∀ i, ofK { d with a0 := a, a1 := b, n0 := c, n1 := e } t i = ofK d t i
  | 0 => rfl
  | i + 1 => by
    have ih := ofK_lists d a b c e t i
    simp only [ofK]
    rw [ih]; rfl
theorem ofP_lists (d : Dv) (a b c e : List Int) (t : List Int) : ∀ i, ofP { d with a0 := a, a1 := b, n0 := c, n1 := e } t i = ofP d t i
  | 0 => ofK_lists d a b c e t _
  | i + 1 => by
    have ih := ofP_lists d a b c e t i
    simp only [ofP]
    rw [ih]; rfl
theorem of_lists (d : Dv) (a b c e : List Int) (t : List Int) : ofF { d with a0 := a, a1 := b, n0 := c, n1 := e } t = ofF d t := by
  unfold ofF
  rw [ofP_lists]
end Go.Proofs.Ytgpfejgohclheaa

namespace Go.Proofs.Ytgpfejgohclheaa
open Go.Pal
set_option maxRecDepth 100000
def booRd : Rd Bool := ⟨fun _ v x => v = .bool x, fun h h' => by rw [h] at h'; cases h'; rfl, fun _ h => h⟩
theorem filter_snoc {α : Type} {l : List α} {i : Nat} (p : α → Bool) (hi : i < l.length) : (l.take (i + 1)).filter p = (l.take i).filter p ++ if p l[i] then [l[i]] else [] := by
  rw [take_snoc hi, List.filter_append]
  cases h : p l[i] <;> simp [h]
theorem told27 : Sound Try.prog 27 id (grel (args3 (slRd intE) intRd booRd fun l _ _ => l.length ≤ 1000) fun x v G => SlV intE G v (toldF x.1 x.2.1 x.2.2)) := by
  refine comp27.grel (Tab.nil _) (ok3 _ _ _ _) (fun args G s h => ?_) (fun x v G G' hg h => h.grow hg) (fun args G x h => ?_)
  · obtain ⟨u, v, w, rfl, _⟩ := h; simp
  · obtain ⟨l, m, b⟩ := x
    obtain ⟨u, v, w, rfl, ⟨a, nn, c, rfl, hl, hn⟩, rfl, rfl, hb⟩ := h
    dsimp only at hl hb
    have hlen := hl.len
    (try dsimp only)
    (conv => whnf)
    refine LoopP.of { α := Nat × Nat × List Value, fr := fun x => [(0, .v (.slice a nn c)), (1, .v (I m)), (2, .c (.sb b)), (7, .c (.row 1 x.2.1)), (8, .v (I x.1))], H := fun x => [(1, .row none x.2.1 x.2.2 3 1)], ok := fun x _ => x.1 ≤ l.length ∧ Row intE (([] : List Int) ++ (l.take x.1).filter (fun x => decide (x < m))) x.2.1 x.2.2, m := fun x => l.length - x.1 }
      ((0, 0, []) : Nat × Nat × List Value) (HeadP.of [] ⟨rfl, rfl, rfl, rfl, rfl, trivial⟩ ⟨rfl, trivial⟩) ⟨Nat.zero_le _, by simpa using (Row.nil : Row intE [] 0 [])⟩ (fun _ => ⟨rfl, rfl⟩) (fun x G1 hg1 hx => W.mk ?_)
    obtain ⟨i, n, vs⟩ := x
    obtain ⟨hi, hrow⟩ := hx
    dsimp only at hi hrow
    have hl1 := SlR.grow (G := G) (G' := G1) (fun _ _ h => h) hl hg1
    have hrn := hrow.n
    have hfl := List.length_filter_le (fun x => decide (x < m)) (l.take i)
    simp only [List.length_append, List.length_nil, List.length_cons] at hrn
    rw [List.length_take] at hfl
    dsimp only
    (conv => whnf)
    refine IteP.mk (fun hlt => W.mk ?_) (fun hge => W.mk ?_) <;> (conv => whnf)
    · have hlt : i < l.length := by omega
      have hc := (hl1).el hlt
      have hsn := filter_snoc (fun x => decide (x < m)) hlt
      generalize l[i] = y at hc hsn
      repeat' (first | (refine OblP.mk ?_ (W.mk ?_); (first | trivial | omega | (simp only [inR]; omega) | exact Nat.le_of_ble_eq_true (by rfl) | exact SlR.some (by assumption) (by omega)); (conv => whnf)) | (first | (refine RdP.at (by assumption) (by rfl) (W.mk ?_); (conv => whnf)) | (refine RdP.sub (by assumption) (by rfl) (W.mk ?_); (conv => whnf)) | (refine RdP.sub2 (by assumption) (by rfl) (W.mk ?_); (conv => whnf)) | (refine RdP.sub3 (by assumption) (by rfl) (W.mk ?_); (conv => whnf))))
      refine IteP.mk (fun hy => W.mk ?_) (fun hy => W.mk ?_) <;> (conv => whnf)
      · repeat' (first | (refine OblP.mk ?_ (W.mk ?_); (first | trivial | omega | (simp only [inR]; omega) | exact Nat.le_of_ble_eq_true (by rfl) | exact SlR.some (by assumption) (by omega)); (conv => whnf)) | (first | (refine RdP.at (by assumption) (by rfl) (W.mk ?_); (conv => whnf)) | (refine RdP.sub (by assumption) (by rfl) (W.mk ?_); (conv => whnf)) | (refine RdP.sub2 (by assumption) (by rfl) (W.mk ?_); (conv => whnf)) | (refine RdP.sub3 (by assumption) (by rfl) (W.mk ?_); (conv => whnf))))
        rw [if_pos (by simpa using hy)] at hsn
        refine RoundP.of (i + 1, n + 1, vs ++ [I y]) (HeadP.of [(1, some 20)] ⟨rfl, rfl, rfl, rfl, rfl, trivial⟩ ⟨rfl, trivial⟩) ⟨hlt, ?_⟩ (by simp only; omega)
        rw [hsn, ← List.append_assoc]
        exact hrow.snoc y
      · repeat' (first | (refine OblP.mk ?_ (W.mk ?_); (first | trivial | omega | (simp only [inR]; omega) | exact Nat.le_of_ble_eq_true (by rfl) | exact SlR.some (by assumption) (by omega)); (conv => whnf)) | (first | (refine RdP.at (by assumption) (by rfl) (W.mk ?_); (conv => whnf)) | (refine RdP.sub (by assumption) (by rfl) (W.mk ?_); (conv => whnf)) | (refine RdP.sub2 (by assumption) (by rfl) (W.mk ?_); (conv => whnf)) | (refine RdP.sub3 (by assumption) (by rfl) (W.mk ?_); (conv => whnf))))
        rw [if_neg (by simpa using hy), List.append_nil] at hsn
        refine RoundP.of (i + 1, n, vs) (HeadP.of [] ⟨rfl, rfl, rfl, rfl, rfl, trivial⟩ ⟨rfl, trivial⟩) ⟨hlt, ?_⟩ (by simp only; omega)
        rw [hsn]
        exact hrow
    · have : i = l.length := by omega
      subst this
      simp only [List.take_length] at hrow hfl hrn
      refine ForkP.mk (fun hb => W.mk ?_) (fun hb => W.mk ?_) <;> (conv => whnf)
      · repeat' (first | (refine OblP.mk ?_ (W.mk ?_); (first | trivial | omega | (simp only [inR]; omega) | exact Nat.le_of_ble_eq_true (by rfl) | exact SlR.some (by assumption) (by omega)); (conv => whnf)) | (first | (refine RdP.at (by assumption) (by rfl) (W.mk ?_); (conv => whnf)) | (refine RdP.sub (by assumption) (by rfl) (W.mk ?_); (conv => whnf)) | (refine RdP.sub2 (by assumption) (by rfl) (W.mk ?_); (conv => whnf)) | (refine RdP.sub3 (by assumption) (by rfl) (W.mk ?_); (conv => whnf))))
        have hrow1 : Row intE (l.filter (fun x => decide (x < m)) ++ [m]) (n + 1) (vs ++ [I m]) := hrow.snoc m
        refine LoopP.of { α := Nat × Nat × List Value, fr := fun x => [(0, .v (.slice a nn c)), (1, .v (I m)), (2, .c (.sb b)), (7, .c (.row 1 x.2.1)), (9, .v (I x.1))], H := fun x => [(1, .row none x.2.1 x.2.2 3 1)], ok := fun x _ => x.1 ≤ l.length ∧ Row intE ((l.filter (fun x => decide (x < m)) ++ [m]) ++ (l.take x.1).filter (fun x => decide (m < x))) x.2.1 x.2.2, m := fun x => l.length - x.1 }
          ((0, n + 1, vs ++ [I m]) : Nat × Nat × List Value) (HeadP.of [(1, some 29)] ⟨rfl, rfl, rfl, rfl, rfl, trivial⟩ ⟨rfl, trivial⟩) ⟨Nat.zero_le _, by simpa using hrow1⟩ (fun _ => ⟨rfl, rfl⟩) (fun x G2 hg2 hx => W.mk ?_)
        obtain ⟨i, n, vs⟩ := x
        obtain ⟨hi, hrow⟩ := hx
        dsimp only at hi hrow
        have hl2 := SlR.grow (G := G) (G' := G2) (fun _ _ h => h) hl (hg1.trans hg2)
        have hrn := hrow.n
        have hfl := List.length_filter_le (fun x => decide (m < x)) (l.take i)
        simp only [List.length_append, List.length_nil, List.length_cons] at hrn
        rw [List.length_take] at hfl
        dsimp only
        (conv => whnf)
        refine IteP.mk (fun hlt => W.mk ?_) (fun hge => W.mk ?_) <;> (conv => whnf)
        · have hlt : i < l.length := by omega
          have hc := (hl2).el hlt
          have hsn := filter_snoc (fun x => decide (m < x)) hlt
          generalize l[i] = y at hc hsn
          repeat' (first | (refine OblP.mk ?_ (W.mk ?_); (first | trivial | omega | (simp only [inR]; omega) | exact Nat.le_of_ble_eq_true (by rfl) | exact SlR.some (by assumption) (by omega)); (conv => whnf)) | (first | (refine RdP.at (by assumption) (by rfl) (W.mk ?_); (conv => whnf)) | (refine RdP.sub (by assumption) (by rfl) (W.mk ?_); (conv => whnf)) | (refine RdP.sub2 (by assumption) (by rfl) (W.mk ?_); (conv => whnf)) | (refine RdP.sub3 (by assumption) (by rfl) (W.mk ?_); (conv => whnf))))
          refine IteP.mk (fun hy => W.mk ?_) (fun hy => W.mk ?_) <;> (conv => whnf)
          · repeat' (first | (refine OblP.mk ?_ (W.mk ?_); (first | trivial | omega | (simp only [inR]; omega) | exact Nat.le_of_ble_eq_true (by rfl) | exact SlR.some (by assumption) (by omega)); (conv => whnf)) | (first | (refine RdP.at (by assumption) (by rfl) (W.mk ?_); (conv => whnf)) | (refine RdP.sub (by assumption) (by rfl) (W.mk ?_); (conv => whnf)) | (refine RdP.sub2 (by assumption) (by rfl) (W.mk ?_); (conv => whnf)) | (refine RdP.sub3 (by assumption) (by rfl) (W.mk ?_); (conv => whnf))))
            rw [if_pos (by simpa using hy)] at hsn
            refine RoundP.of (i + 1, n + 1, vs ++ [I y]) (HeadP.of [(1, some 48)] ⟨rfl, rfl, rfl, rfl, rfl, trivial⟩ ⟨rfl, trivial⟩) ⟨hlt, ?_⟩ (by simp only; omega)
            rw [hsn, ← List.append_assoc]
            exact hrow.snoc y
          · repeat' (first | (refine OblP.mk ?_ (W.mk ?_); (first | trivial | omega | (simp only [inR]; omega) | exact Nat.le_of_ble_eq_true (by rfl) | exact SlR.some (by assumption) (by omega)); (conv => whnf)) | (first | (refine RdP.at (by assumption) (by rfl) (W.mk ?_); (conv => whnf)) | (refine RdP.sub (by assumption) (by rfl) (W.mk ?_); (conv => whnf)) | (refine RdP.sub2 (by assumption) (by rfl) (W.mk ?_); (conv => whnf)) | (refine RdP.sub3 (by assumption) (by rfl) (W.mk ?_); (conv => whnf))))
            rw [if_neg (by simpa using hy), List.append_nil] at hsn
            refine RoundP.of (i + 1, n, vs) (HeadP.of [] ⟨rfl, rfl, rfl, rfl, rfl, trivial⟩ ⟨rfl, trivial⟩) ⟨hlt, ?_⟩ (by simp only; omega)
            rw [hsn]
            exact hrow
        · have : i = l.length := by omega
          subst this
          simp only [List.take_length] at hrow hfl hrn
          refine PubP.mk (fun a1 c1 G4 hg4 hp => W.mk ?_)
          (conv => whnf)
          refine FinP.mk ?_
          have hrow2 : Row intE (toldF l m b) n vs := by subst hb; exact hrow
          exact hrow2.pub hp (by omega)
      · repeat' (first | (refine OblP.mk ?_ (W.mk ?_); (first | trivial | omega | (simp only [inR]; omega) | exact Nat.le_of_ble_eq_true (by rfl) | exact SlR.some (by assumption) (by omega)); (conv => whnf)) | (first | (refine RdP.at (by assumption) (by rfl) (W.mk ?_); (conv => whnf)) | (refine RdP.sub (by assumption) (by rfl) (W.mk ?_); (conv => whnf)) | (refine RdP.sub2 (by assumption) (by rfl) (W.mk ?_); (conv => whnf)) | (refine RdP.sub3 (by assumption) (by rfl) (W.mk ?_); (conv => whnf))))
        have hrow1 : Row intE (l.filter (fun x => decide (x < m)) ++ []) n vs := by rw [List.append_nil]; exact hrow
        refine LoopP.of { α := Nat × Nat × List Value, fr := fun x => [(0, .v (.slice a nn c)), (1, .v (I m)), (2, .c (.sb b)), (7, .c (.row 1 x.2.1)), (9, .v (I x.1))], H := fun x => [(1, .row none x.2.1 x.2.2 3 1)], ok := fun x _ => x.1 ≤ l.length ∧ Row intE ((l.filter (fun x => decide (x < m)) ++ []) ++ (l.take x.1).filter (fun x => decide (m < x))) x.2.1 x.2.2, m := fun x => l.length - x.1 }
          ((0, n, vs) : Nat × Nat × List Value) (HeadP.of [] ⟨rfl, rfl, rfl, rfl, rfl, trivial⟩ ⟨rfl, trivial⟩) ⟨Nat.zero_le _, by simpa using hrow1⟩ (fun _ => ⟨rfl, rfl⟩) (fun x G2 hg2 hx => W.mk ?_)
        obtain ⟨i, n, vs⟩ := x
        obtain ⟨hi, hrow⟩ := hx
        dsimp only at hi hrow
        have hl2 := SlR.grow (G := G) (G' := G2) (fun _ _ h => h) hl (hg1.trans hg2)
        have hrn := hrow.n
        have hfl := List.length_filter_le (fun x => decide (m < x)) (l.take i)
        simp only [List.length_append, List.length_nil, List.length_cons] at hrn
        rw [List.length_take] at hfl
        dsimp only
        (conv => whnf)
        refine IteP.mk (fun hlt => W.mk ?_) (fun hge => W.mk ?_) <;> (conv => whnf)
        · have hlt : i < l.length := by omega
          have hc := (hl2).el hlt
          have hsn := filter_snoc (fun x => decide (m < x)) hlt
          generalize l[i] = y at hc hsn
          repeat' (first | (refine OblP.mk ?_ (W.mk ?_); (first | trivial | omega | (simp only [inR]; omega) | exact Nat.le_of_ble_eq_true (by rfl) | exact SlR.some (by assumption) (by omega)); (conv => whnf)) | (first | (refine RdP.at (by assumption) (by rfl) (W.mk ?_); (conv => whnf)) | (refine RdP.sub (by assumption) (by rfl) (W.mk ?_); (conv => whnf)) | (refine RdP.sub2 (by assumption) (by rfl) (W.mk ?_); (conv => whnf)) | (refine RdP.sub3 (by assumption) (by rfl) (W.mk ?_); (conv => whnf))))
          refine IteP.mk (fun hy => W.mk ?_) (fun hy => W.mk ?_) <;> (conv => whnf)
          · repeat' (first | (refine OblP.mk ?_ (W.mk ?_); (first | trivial | omega | (simp only [inR]; omega) | exact Nat.le_of_ble_eq_true (by rfl) | exact SlR.some (by assumption) (by omega)); (conv => whnf)) | (first | (refine RdP.at (by assumption) (by rfl) (W.mk ?_); (conv => whnf)) | (refine RdP.sub (by assumption) (by rfl) (W.mk ?_); (conv => whnf)) | (refine RdP.sub2 (by assumption) (by rfl) (W.mk ?_); (conv => whnf)) | (refine RdP.sub3 (by assumption) (by rfl) (W.mk ?_); (conv => whnf))))
            rw [if_pos (by simpa using hy)] at hsn
            refine RoundP.of (i + 1, n + 1, vs ++ [I y]) (HeadP.of [(1, some 48)] ⟨rfl, rfl, rfl, rfl, rfl, trivial⟩ ⟨rfl, trivial⟩) ⟨hlt, ?_⟩ (by simp only; omega)
            rw [hsn, ← List.append_assoc]
            exact hrow.snoc y
          · repeat' (first | (refine OblP.mk ?_ (W.mk ?_); (first | trivial | omega | (simp only [inR]; omega) | exact Nat.le_of_ble_eq_true (by rfl) | exact SlR.some (by assumption) (by omega)); (conv => whnf)) | (first | (refine RdP.at (by assumption) (by rfl) (W.mk ?_); (conv => whnf)) | (refine RdP.sub (by assumption) (by rfl) (W.mk ?_); (conv => whnf)) | (refine RdP.sub2 (by assumption) (by rfl) (W.mk ?_); (conv => whnf)) | (refine RdP.sub3 (by assumption) (by rfl) (W.mk ?_); (conv => whnf))))
            rw [if_neg (by simpa using hy), List.append_nil] at hsn
            refine RoundP.of (i + 1, n, vs) (HeadP.of [] ⟨rfl, rfl, rfl, rfl, rfl, trivial⟩ ⟨rfl, trivial⟩) ⟨hlt, ?_⟩ (by simp only; omega)
            rw [hsn]
            exact hrow
        · have : i = l.length := by omega
          subst this
          simp only [List.take_length] at hrow hfl hrn
          refine PubP.mk (fun a1 c1 G4 hg4 hp => W.mk ?_)
          (conv => whnf)
          refine FinP.mk ?_
          have hrow2 : Row intE (toldF l m b) n vs := by subst hb; exact hrow
          exact hrow2.pub hp (by omega)
end Go.Proofs.Ytgpfejgohclheaa

namespace Go.Proofs.Ytgpfejgohclheaa
open Go.Pal
set_option maxRecDepth 100000
abbrev hV (x : Hdr) : Value := .slice x.1 x.2.1 x.2.2
/-- Headers and the rows that they stand for. -/
def RRs (G : Hp) (hs : List Hdr) (ts : List (List Int)) : Prop := hs.length = ts.length ∧ ∀ (i : Nat) (h : Hdr) (t : List Int), hs[i]? = some h → ts[i]? = some t → SlV u8E G (hV h) t
theorem RRs.nil {G : Hp} : RRs G [] [] := ⟨rfl, fun i h t e => by simp at e⟩
theorem RRs.one {G : Hp} {h : Hdr} {t : List Int} (e : SlV u8E G (hV h) t) : RRs G [h] [t] := ⟨rfl, fun i h' t' e1 e2 => by
  cases i with
  | zero => simp at e1 e2; subst e1; subst e2; exact e
  | succ i => simp at e1⟩
theorem RRs.grow {G G' : Hp} {hs : List Hdr} {ts : List (List Int)} (hg : Grow G G') (e : RRs G hs ts) : RRs G' hs ts := ⟨e.1, fun i h t e1 e2 => (e.2 i h t e1 e2).grow hg⟩
theorem RRs.app {G : Hp} {hs hs' : List Hdr} {ts ts' : List (List Int)} (e : RRs G hs ts) (e' : RRs G hs' ts') : RRs G (hs ++ hs') (ts ++ ts') := by
  refine ⟨by rw [List.length_append, List.length_append, e.1, e'.1], fun i h t e1 e2 => ?_⟩
  by_cases hi : i < hs.length
  · rw [List.getElem?_append_left hi] at e1
    rw [List.getElem?_append_left (by rw [← e.1]; exact hi)] at e2
    exact e.2 i h t e1 e2
  · rw [List.getElem?_append_right (by omega)] at e1
    rw [List.getElem?_append_right (by rw [← e.1]; omega), ← e.1] at e2
    exact e'.2 _ h t e1 e2
theorem RRs.uniq {G : Hp} {hs : List Hdr} {ts ts' : List (List Int)} (e : RRs G hs ts) (e' : RRs G hs ts') : ts = ts' := by
  apply List.ext_getElem (by rw [← e.1, e'.1])
  intro i h1 h2
  have hi : i < hs.length := by rw [e.1]; exact h1
  exact (e.2 i hs[i] ts[i] (List.getElem?_eq_getElem hi) (List.getElem?_eq_getElem h1)).uniq (e'.2 i hs[i] ts'[i] (List.getElem?_eq_getElem hi) (List.getElem?_eq_getElem h2))
end Go.Proofs.Ytgpfejgohclheaa

namespace Go.Proofs.Ytgpfejgohclheaa
open Go.Pal
set_option maxRecDepth 100000
end Go.Proofs.Ytgpfejgohclheaa

namespace Go.Proofs.Ytgpfejgohclheaa
open Go.Pal
end Go.Proofs.Ytgpfejgohclheaa

namespace Go.Proofs.Ytgpfejgohclheaa
open Go.Pal
set_option maxRecDepth 100000
set_option maxHeartbeats 1000000
end Go.Proofs.Ytgpfejgohclheaa

namespace Go.Proofs.Ytgpfejgohclheaa
open Go.Pal
/-- The same, but for the lists. -/
def SameD (d x : Dv) : Prop := x = { d with a0 := x.a0, a1 := x.a1, n0 := x.n0, n1 := x.n1 }
theorem SameD.m {d x : Dv} (h : SameD d x) : x.m = d.m := by rw [h]
theorem SameD.of {d x : Dv} (h : SameD d x) (t : List Int) : ofF x t = ofF d t := by rw [h, of_lists]
theorem SameD.out {d x : Dv} (h : SameD d x) (n : Nm2) : outF x n = outF d n := by rw [h]; rfl
theorem SameD.right {d x : Dv} (h : SameD d x) (hr : rightD d = true) (h0 : listF d.m x.a0 = true) (h1 : listF d.m x.a1 = true) (h2 : listF d.m x.n0 = true) (h3 : listF d.m x.n1 = true) : rightD x = true := by
  rw [h]
  simp only [rightD, Bool.and_eq_true] at hr ⊢
  obtain ⟨⟨⟨⟨⟨⟨k1, k2⟩, k3⟩, k4⟩, k5⟩, k6⟩, k7⟩ := hr
  exact ⟨⟨⟨⟨⟨⟨k1, h0⟩, h2⟩, h1⟩, h3⟩, k6⟩, k7⟩
theorem onF_swap (l r : List Int) (y : Int) : onF (l, r) y = onF (r, l) y := by
  show b2 (l.contains y) + b2 (r.contains y) = b2 (r.contains y) + b2 (l.contains y)
  omega
end Go.Proofs.Ytgpfejgohclheaa

namespace Go.Proofs.Ytgpfejgohclheaa
open Go.Pal
set_option maxRecDepth 100000
def readyF (d : Dv) : Bool := fewF d && decide (openF d = 0)
theorem ready_fault {d : Dv} (h : readyF d = true) : fewF d = true ∧ openF d = 0 ∧ faultF d = 0 := by
  simp only [readyF, Bool.and_eq_true, decide_eq_true_eq] at h
  exact ⟨h.1, h.2, (open_fault h.2).1⟩
def tabRdy : Tab Try.prog := Tab.cons 20 _ few20u body20 (Tab.cons 17 _ open17 body17 (Tab.nil _))
theorem ready26 : Sound Try.prog 26 id (gsca (args1 duRd fun _ => True) fun d v => v = .bool (readyF d)) := by
  refine comp26.gsca tabRdy (fun args G s h => ?_) (fun args G d h => ?_)
  · obtain ⟨v, rfl, _⟩ := h; simp
  · obtain ⟨u, rfl, ⟨w0, w1, w2, w3, w4, w5, rfl, hd⟩, _⟩ := h
    have hdv : DuV G _ d := ⟨_, _, _, _, _, _, rfl, hd⟩
    obtain ⟨x0, y0, z0, rfl, la0⟩ := id hd.a0
    obtain ⟨x1, y1, z1, rfl, la1⟩ := id hd.a1
    obtain ⟨x2, y2, z2, rfl, ln0⟩ := id hd.n0
    obtain ⟨x3, y3, z3, rfl, ln1⟩ := id hd.n1
    obtain ⟨x4, y4, z4, rfl, lps⟩ := id hd.ps
    obtain ⟨x5, y5, z5, rfl, lqs⟩ := id hd.qs
    (conv => whnf)
    refine ScaP.g (ok1 duRd fun _ => True) (x := d) ⟨_, rfl, hdv, trivial⟩ (fun v hv => W.mk ?_)
    subst hv
    (conv => whnf)
    refine ForkP.mk (fun hf => W.mk ?_) (fun hf => W.mk ?_) <;> (conv => whnf)
    · refine ScaP.g (ok1 dvRd fun _ => True) (x := d) ⟨_, rfl, hdv.v hf, trivial⟩ (fun v hv => W.mk ?_)
      subst hv
      (conv => whnf)
      repeat' (first | (refine IteP.mk (fun _ => W.mk ?_) (fun _ => W.mk ?_) <;> (conv => whnf)) | (refine FinP.mk ?_))
      all_goals (refine congrArg Value.bool ?_; simp [readyF, *])
    · refine FinP.mk ?_
      refine congrArg Value.bool ?_
      simp [readyF, hf]
set_option maxHeartbeats 2000000
end Go.Proofs.Ytgpfejgohclheaa

namespace Go.Proofs.Ytgpfejgohclheaa
open Go.Pal
structure LessD (d x : Dv) : Prop where
  same : SameD d x
  right : rightD x = true
  a : ∀ y, (onF x.a y < 2 → onF d.a y < 2) ∧ (0 < onF x.a y → 0 < onF d.a y)
  n : ∀ y, (onF x.n y < 2 → onF d.n y < 2) ∧ (0 < onF x.n y → 0 < onF d.n y)
theorem LessD.may {d x : Dv} (h : LessD d x) {y v : Int} (hm : mayF x y v = true) : mayF d y v = true := by
  have ha := h.a y
  have hn := h.n y
  unfold mayF at hm ⊢
  split
  · rename_i hv
    rw [if_pos hv] at hm
    simp only [Bool.and_eq_true, decide_eq_true_eq] at hm ⊢
    exact ⟨ha.1 hm.1, hn.1 hm.2⟩
  · rename_i hv
    rw [if_neg hv] at hm
    split
    · rename_i hv2
      rw [if_pos hv2] at hm
      simp only [Bool.and_eq_true, decide_eq_true_eq] at hm ⊢
      exact ⟨ha.2 hm.1, hn.1 hm.2⟩
    · rename_i hv2
      rw [if_neg hv2] at hm
      simp only [Bool.and_eq_true, decide_eq_true_eq] at hm ⊢
      exact ⟨⟨hm.1.1, hn.2 hm.1.2⟩, ha.1 hm.2⟩
theorem LessD.votes {d x : Dv} (h : LessD d x) {y v : Int} (hm : v ∈ votesF x y) : v ∈ votesF d y := by
  have h0 := h.may (y := y) (v := 0)
  have h1 := h.may (y := y) (v := 1)
  have h2 := h.may (y := y) (v := 2)
  simp only [votesF, List.mem_append] at hm ⊢
  rcases hm with (hm | hm) | hm
  · left; left
    split at hm
    · rename_i hc; rw [if_pos (h0 hc)]; exact hm
    · cases hm
  · left; right
    split at hm
    · rename_i hc; rw [if_pos (h1 hc)]; exact hm
    · cases hm
  · right
    split at hm
    · rename_i hc; rw [if_pos (h2 hc)]; exact hm
    · cases hm
theorem LessD.len {d x : Dv} (h : LessD d x) (y : Int) : (votesF x y).length ≤ (votesF d y).length := by
  have h0 := h.may (y := y) (v := 0)
  have h1 := h.may (y := y) (v := 1)
  have h2 := h.may (y := y) (v := 2)
  simp only [votesF, List.length_append]
  have e : ∀ (p q : Bool) (a : Int), (p = true → q = true) → (if p then [a] else []).length ≤ (if q then [a] else []).length := by
    intro p q a hpq
    cases p
    · simp
    · rw [hpq rfl]; exact Nat.le_refl _
  have := e _ _ 0 h0
  have := e _ _ 1 h1
  have := e _ _ 2 h2
  omega
theorem LessD.open_ {d x : Dv} (h : LessD d x) (ho : openF d = 0) : openF x = 0 ∨ (openF x = 9 ∧ 0 ≤ clashF x) := by
  obtain ⟨_, h8⟩ := open_fault ho
  by_cases hc : 0 ≤ clashF x
  · right
    have hf : faultF x = 9 := by rw [faultF, h.right, if_pos rfl, if_pos hc]
    rw [openF, if_neg (by rw [hf]; simp), hf]
    exact ⟨rfl, hc⟩
  · left
    have hf : faultF x = 0 := by rw [faultF, h.right, if_pos rfl, if_neg hc]
    have hl : (doubtsF x).length ≤ (doubtsF d).length := by
      rw [doubts_len, doubts_len, h.same.m]
      refine List.countP_mono_left fun k _ hk => ?_
      rw [dbt_votes, decide_eq_true_eq] at hk
      rw [dbt_votes, decide_eq_true_eq]
      have := h.len (k : Nat)
      omega
    rw [openF, if_neg (by omega), hf]
theorem LessD.tru {d x : Dv} (h : LessD d x) (hr : rightD d = true) {f : Nat → Int} (hf : f ∈ truL (lookF x)) : f ∈ truL (lookF d) := by
  obtain ⟨h1, h2⟩ := (tru_mem h.right).1 hf
  rw [h.same.m] at h1 h2
  exact (tru_mem hr).2 ⟨fun k hk => h.votes (h1 k hk), h2⟩
theorem LessD.nums {d x : Dv} (h : LessD d x) (hr : rightD d = true) {n : Nm2} (hn : n ∈ numsF x) : n ∈ numsF d := by
  obtain ⟨f, hf, rfl⟩ := List.mem_map.1 hn
  exact List.mem_map.2 ⟨f, h.tru hr hf, (h.same.of _).symm⟩
theorem LessD.outs {d x : Dv} (h : LessD d x) (hr : rightD d = true) {o : Int} (hn : o ∈ allowedF x) : o ∈ allowedF d := by
  rw [allowed_mem] at hn ⊢
  obtain ⟨f, hf, rfl⟩ := List.mem_map.1 hn
  refine List.mem_map.2 ⟨f, h.tru hr hf, ?_⟩
  show outF d (ofF d (trT f)) = outF x (ofF x (trT f))
  rw [h.same.of, h.same.out]
theorem bdF_att {g : Nm2 → Int} : ∀ (k : Nat) (l : List Nm2), l.length = k → l ≠ [] → (∃ x ∈ l, (bdF g l).1 = g x) ∧ ∃ x ∈ l, (bdF g l).2 = g x := by
  intro k
  induction k with
  | zero => intro l h h2; exact absurd (List.length_eq_zero_iff.1 h) h2
  | succ k ih =>
    intro l hk hne
    obtain ⟨x, l, rfl⟩ : ∃ x L, l = L ++ [x] := ⟨l.getLast hne, l.dropLast, (List.dropLast_concat_getLast hne).symm⟩
    have ih := ih l (by simpa using hk)
    clear hne
    by_cases hl : l = []
    · subst hl
      exact ⟨⟨x, by simp, rfl⟩, ⟨x, by simp, rfl⟩⟩
    · obtain ⟨⟨y, hy, e1⟩, ⟨z, hz, e2⟩⟩ := ih hl
      rw [bdF_snoc hl]
      refine ⟨?_, ?_⟩
      · rcases Int.le_total (bdF g l).1 (g x) with h | h
        · exact ⟨y, by simp [hy], by rw [Int.min_eq_left h, e1]⟩
        · exact ⟨x, by simp, Int.min_eq_right h⟩
      · rcases Int.le_total (bdF g l).2 (g x) with h | h
        · exact ⟨x, by simp, Int.max_eq_right h⟩
        · exact ⟨z, by simp [hz], by rw [Int.max_eq_left h, e2]⟩
theorem LessD.bounds {d x : Dv} (h : LessD d x) (hr : rightD d = true) (hf : faultF x = 0) (g : Nm2 → Int) : (bdF g (numsF d)).1 ≤ (bdF g (numsF x)).1 ∧ (bdF g (numsF x)).2 ≤ (bdF g (numsF d)).2 := by
  have hne : numsF x ≠ [] := fun e => by
    have := List.length_pos_iff.2 (numbers_ne hf)
    have e2 := congrArg List.length e
    rw [numsF, List.length_map, List.length_nil] at e2
    omega
  obtain ⟨⟨y, hy, e1⟩, ⟨z, hz, e2⟩⟩ := bdF_att (g := g) _ (numsF x) rfl hne
  have h1 := bdF_mem (g := g) (h.nums hr hy)
  have h2 := bdF_mem (g := g) (h.nums hr hz)
  omega

/-! ### A list gets a member who is on the other list, or loses one who is not -/
theorem on_known (l r : List Int) (m y : Int) : onF (toldF l m (r.contains m), r) y = if y = m then 2 * b2 (r.contains m) else onF (l, r) y := by
  show b2 ((toldF l m (r.contains m)).contains y) + b2 (r.contains y) = _
  rw [told_has]
  by_cases h : y = m
  · subst h; rw [if_pos rfl, if_pos rfl]; omega
  · rw [if_neg h, if_neg h]; rfl
theorem on_less (l r : List Int) (m y : Int) : (onF (toldF l m (r.contains m), r) y < 2 → onF (l, r) y < 2) ∧ (0 < onF (toldF l m (r.contains m), r) y → 0 < onF (l, r) y) := by
  rw [on_known]
  by_cases h : y = m
  · subst h
    rw [if_pos rfl]
    show (2 * b2 (r.contains y) < 2 → b2 (l.contains y) + b2 (r.contains y) < 2) ∧ (0 < 2 * b2 (r.contains y) → 0 < b2 (l.contains y) + b2 (r.contains y))
    cases l.contains y <;> cases r.contains y <;> decide
  · rw [if_neg h]; exact ⟨id, id⟩
theorem less_id (l : List Int × List Int) (y : Int) : (onF l y < 2 → onF l y < 2) ∧ (0 < onF l y → 0 < onF l y) := ⟨id, id⟩
def knA0 (d : Dv) (m : Int) : Dv := { d with a0 := toldF d.a0 m (d.a1.contains m) }
def knA1 (d : Dv) (m : Int) : Dv := { d with a1 := toldF d.a1 m (d.a0.contains m) }
def knN0 (d : Dv) (m : Int) : Dv := { d with n0 := toldF d.n0 m (d.n1.contains m) }
def knN1 (d : Dv) (m : Int) : Dv := { d with n1 := toldF d.n1 m (d.n0.contains m) }
section
variable {d : Dv} {m : Int} (hr : rightD d = true) (h0 : 0 ≤ m) (h1 : m < d.m)
include hr h0 h1
theorem lessA0 : LessD d (knA0 d m) := by
  obtain ⟨l0, l1, l2, l3⟩ := right_lists hr
  exact ⟨rfl, SameD.right (d := d) (x := knA0 d m) rfl hr (told_list l0 h0 h1) l1 l2 l3, fun y => on_less d.a0 d.a1 m y, fun y => less_id d.n y⟩
theorem lessN0 : LessD d (knN0 d m) := by
  obtain ⟨l0, l1, l2, l3⟩ := right_lists hr
  exact ⟨rfl, SameD.right (d := d) (x := knN0 d m) rfl hr l0 l1 (told_list l2 h0 h1) l3, fun y => less_id d.a y, fun y => on_less d.n0 d.n1 m y⟩
theorem lessA1 : LessD d (knA1 d m) := by
  obtain ⟨l0, l1, l2, l3⟩ := right_lists hr
  refine ⟨rfl, SameD.right (d := d) (x := knA1 d m) rfl hr l0 (told_list l1 h0 h1) l2 l3, fun y => ?_, fun y => less_id d.n y⟩
  show (onF (d.a0, toldF d.a1 m (d.a0.contains m)) y < 2 → onF (d.a0, d.a1) y < 2) ∧ (0 < onF (d.a0, toldF d.a1 m (d.a0.contains m)) y → 0 < onF (d.a0, d.a1) y)
  rw [onF_swap d.a0, onF_swap d.a0]
  exact on_less d.a1 d.a0 m y
theorem lessN1 : LessD d (knN1 d m) := by
  obtain ⟨l0, l1, l2, l3⟩ := right_lists hr
  refine ⟨rfl, SameD.right (d := d) (x := knN1 d m) rfl hr l0 l1 l2 (told_list l3 h0 h1), fun y => less_id d.a y, fun y => ?_⟩
  show (onF (d.n0, toldF d.n1 m (d.n0.contains m)) y < 2 → onF (d.n0, d.n1) y < 2) ∧ (0 < onF (d.n0, toldF d.n1 m (d.n0.contains m)) y → 0 < onF (d.n0, d.n1) y)
  rw [onF_swap d.n0, onF_swap d.n0]
  exact on_less d.n1 d.n0 m y
end
end Go.Proofs.Ytgpfejgohclheaa

namespace Go.Proofs.Ytgpfejgohclheaa
open Go.Pal
set_option maxRecDepth 100000
abbrev args4 {α β γ δ : Type} (A : Rd α) (B : Rd β) (C : Rd γ) (D : Rd δ) (q : α → β → γ → δ → Prop) : GRel (α × β × γ × δ) := fun args G x => ∃ u v w z, args = [u, v, w, z] ∧ A.R G u x.1 ∧ B.R G v x.2.1 ∧ C.R G w x.2.2.1 ∧ D.R G z x.2.2.2 ∧ q x.1 x.2.1 x.2.2.1 x.2.2.2
theorem con_succ {l : List Int} {i : Nat} (h : i < l.length) (o : Int) : (l.take (i + 1)).contains o = ((l.take i).contains o || decide (l[i] = o)) := by
  rw [take_snoc h, Bool.eq_iff_iff]
  simp only [List.contains_iff_mem, List.mem_append, List.mem_singleton, Bool.or_eq_true, decide_eq_true_eq]
  exact ⟨fun h => h.elim .inl fun e => .inr e.symm, fun h => h.elim .inl fun e => .inr e.symm⟩
def tabKn : Tab Try.prog := Tab.cons 26 _ ready26 body26 (Tab.cons 10 _ wakes10 body10 (Tab.cons 12 _ div12 body12 (Tab.cons 28 _ has28 body28 (Tab.cons 27 _ told27 body27 (Tab.cons 13 _ bounds13 body13 (Tab.cons 23 _ allowed23 body23 (Tab.cons 25 _ clash25 body25 (Tab.nil _))))))))
set_option maxHeartbeats 4000000
theorem law5 : Sound Try.prog 5 id (gsca (args4 duRd booRd u8Rd u8Rd fun d _ te me => rul d ∧ (0 ≤ te ∧ te ≤ 255) ∧ 0 ≤ me ∧ me ≤ 255) fun _ v => v = .bool true) := by
  refine comp5.gsca tabKn (fun args G s h => ?_) (fun args G x h => ?_)
  · obtain ⟨u, v, w, w', rfl, _⟩ := h; simp
  · obtain ⟨d, aye, te, me⟩ := x
    obtain ⟨u, v, w, w', rfl, ⟨w0, w1, w2, w3, w4, w5, rfl, hd⟩, rfl, rfl, rfl, hr, ⟨ht0, ht1⟩, hme0, hme1⟩ := h
    dsimp only at hd hr ht0 ht1 hme0 hme1
    have hdu : DuV G _ d := ⟨_, _, _, _, _, _, rfl, hd⟩
    obtain ⟨x0, y0, z0, rfl, la0⟩ := id hd.a0
    obtain ⟨x1, y1, z1, rfl, la1⟩ := id hd.a1
    obtain ⟨x2, y2, z2, rfl, ln0⟩ := id hd.n0
    obtain ⟨x3, y3, z3, rfl, ln1⟩ := id hd.n1
    obtain ⟨x4, y4, z4, rfl, lps⟩ := id hd.ps
    obtain ⟨x5, y5, z5, rfl, lqs⟩ := id hd.qs
    dsimp only
    (conv => whnf)
    refine ScaP.g (ok1 duRd fun _ => True) (x := d) ⟨_, rfl, hdu, trivial⟩ (fun v hv => W.mk ?_)
    subst hv
    (conv => whnf)
    refine ForkP.mk (fun hrd => W.mk ?_) (fun hrd => W.mk ?_) <;> (conv => whnf)
    rotate_left
    · refine ScaP.g okU (x := ()) rfl (fun v hv => W.mk ?_)
      subst hv
      (conv => whnf)
      refine ForkP.mk (fun _ => W.mk ?_) (fun h => by cases h)
      (conv => whnf)
      exact FinP.mk rfl
    obtain ⟨hfw, hop, hfa⟩ := ready_fault hrd
    have hri := fault_right hfa
    obtain ⟨hm0, hm1⟩ := right_m hri
    have hdv := hdu.v hfw
    have hg0 := Grow.refl G
    have hk0 := Int.emod_nonneg te (show (2 : Int) ≠ 0 by decide)
    have hk1 := Int.emod_lt_of_pos te (show (0 : Int) < 2 by decide)
    have hn0 := Int.emod_nonneg me (show d.m ≠ 0 by omega)
    have hn1 := Int.emod_lt_of_pos me (show 0 < d.m by omega)
    repeat' (first | (refine OblP.mk ?_ (W.mk ?_); (first | trivial | omega | (simp only [inR]; omega) | exact Nat.le_of_ble_eq_true (by rfl) | exact SlR.some (by assumption) (by omega)); (conv => whnf)) | (first | (refine RdP.at (by assumption) (by rfl) (W.mk ?_); (conv => whnf)) | (refine RdP.sub (by assumption) (by rfl) (W.mk ?_); (conv => whnf)) | (refine RdP.sub2 (by assumption) (by rfl) (W.mk ?_); (conv => whnf)) | (refine RdP.sub3 (by assumption) (by rfl) (W.mk ?_); (conv => whnf))))
    generalize te % 2 = kk at hk0 hk1 ⊢
    generalize me % d.m = mm at hn0 hn1 ⊢
    have h45 := few_len hfw
    refine RelP.g (ok1 dvRd fun d => fewF d = true) (x := d) ⟨_, rfl, hdv, hfw⟩ (Grow.refl _) (fun v G1 h1 hq => W.mk ?_)
    have hg1 := hg0.trans h1
    obtain ⟨_, _, _, _, _, _, rfl, hq⟩ := hq
    obtain ⟨ex0, ey0, ez0, rfl, e0a, f0a⟩ := id hq.a0
    obtain ⟨ex1, ey1, ez1, rfl, e1a, f1a⟩ := id hq.a1
    obtain ⟨ex2, ey2, ez2, rfl, e2a, f2a⟩ := id hq.n0
    obtain ⟨ex3, ey3, ez3, rfl, e3a, f3a⟩ := id hq.n1
    obtain ⟨ex4, ey4, ez4, rfl, e4a, f4a⟩ := id hq.ps
    obtain ⟨ex5, ey5, ez5, rfl, e5a, f5a⟩ := id hq.qs
    rcases (by omega : kk = 0 ∨ kk = 1) with rfl | rfl
    · (conv => whnf)
      refine ForkP.mk (fun hay => W.mk ?_) (fun hay => W.mk ?_) <;> (conv => whnf)
      · repeat' (first | (refine OblP.mk ?_ (W.mk ?_); (first | trivial | omega | (simp only [inR]; omega) | exact Nat.le_of_ble_eq_true (by rfl) | exact SlR.some (by assumption) (by omega)); (conv => whnf)) | (first | (refine RdP.at (by assumption) (by rfl) (W.mk ?_); (conv => whnf)) | (refine RdP.sub (by assumption) (by rfl) (W.mk ?_); (conv => whnf)) | (refine RdP.sub2 (by assumption) (by rfl) (W.mk ?_); (conv => whnf)) | (refine RdP.sub3 (by assumption) (by rfl) (W.mk ?_); (conv => whnf))))
        refine EqsP.mk ⟨[.val (.slice ex0 ey0 ez0)], rfl, rfl, W.mk ?_⟩
        (conv => whnf)
        repeat' (first | (refine OblP.mk ?_ (W.mk ?_); (first | trivial | omega | (simp only [inR]; omega) | exact Nat.le_of_ble_eq_true (by rfl) | exact SlR.some (by assumption) (by omega)); (conv => whnf)) | (first | (refine RdP.at (by assumption) (by rfl) (W.mk ?_); (conv => whnf)) | (refine RdP.sub (by assumption) (by rfl) (W.mk ?_); (conv => whnf)) | (refine RdP.sub2 (by assumption) (by rfl) (W.mk ?_); (conv => whnf)) | (refine RdP.sub3 (by assumption) (by rfl) (W.mk ?_); (conv => whnf))))
        refine EqsP.mk ⟨[.val (.slice x1 y1 z1)], rfl, rfl, W.mk ?_⟩
        (conv => whnf)
        refine ScaP.g (ok2 (slRd intE) intRd fun _ _ => True) (x := (d.a1, mm)) ⟨_, _, rfl, ⟨_, _, _, rfl, SlR.grow (G := G) (G' := G1) (fun _ _ h => h) la1 hg1, by have := (la1).len; omega⟩, rfl, trivial⟩ (fun v hv => W.mk ?_)
        subst hv
        dsimp only
        (conv => whnf)
        refine ForkP.mk (fun hb => W.mk ?_) (fun hb => W.mk ?_) <;> (conv => whnf)
        · refine RelP.g (ok3 (slRd intE) intRd booRd fun l _ _ => l.length ≤ 1000) (x := (d.a0, mm, true)) ⟨_, _, _, rfl, ⟨_, _, _, rfl, e0a, f0a⟩, rfl, rfl, by show (d.a0).length ≤ 1000; omega⟩ (Grow.refl _) (fun v G2 h2 hq => W.mk ?_)
          have hg2 := hg1.trans h2
          obtain ⟨b1, b2, b3, rfl, hb1, hb2⟩ := hq
          have htl : SlV intE G2 (.slice b1 b2 b3) (toldF d.a0 mm ((d.a1).contains mm)) := by rw [hb]; exact ⟨_, _, _, rfl, hb1, hb2⟩
          (conv => whnf)
          repeat' (first | (refine OblP.mk ?_ (W.mk ?_); (first | trivial | omega | (simp only [inR]; omega) | exact Nat.le_of_ble_eq_true (by rfl) | exact SlR.some (by assumption) (by omega)); (conv => whnf)) | (first | (refine RdP.at (by assumption) (by rfl) (W.mk ?_); (conv => whnf)) | (refine RdP.sub (by assumption) (by rfl) (W.mk ?_); (conv => whnf)) | (refine RdP.sub2 (by assumption) (by rfl) (W.mk ?_); (conv => whnf)) | (refine RdP.sub3 (by assumption) (by rfl) (W.mk ?_); (conv => whnf))))
          have hdx : DvV G2 (.agg #[I d.m, (.slice b1 b2 b3), (.slice ex1 ey1 ez1), (.slice ex2 ey2 ez2), (.slice ex3 ey3 ez3), .slice ex4 ey4 ez4, .slice ex5 ey5 ez5, U d.rule, I d.need, I d.quorum, U d.tie]) (knA0 d mm) :=
            ⟨_, _, _, _, _, _, rfl, htl, (SlV.grow h2 ⟨_, _, _, rfl, e1a, f1a⟩), (SlV.grow h2 ⟨_, _, _, rfl, e2a, f2a⟩), (SlV.grow h2 ⟨_, _, _, rfl, e3a, f3a⟩), SlV.grow h2 ⟨_, _, _, rfl, e4a, f4a⟩, SlV.grow h2 ⟨_, _, _, rfl, e5a, f5a⟩⟩
          have hless := (lessA0 hri hn0 hn1)
          have hrx : rul (knA0 d mm) := hr
          have hbd : bndV d = .tuple #[rngV (bdF Nm2.a (numsF d)), rngV (bdF Nm2.n (numsF d)), I 0] := by rw [bndV, if_pos hop]
          rcases hless.open_ hop with hox | ⟨hox, hcl⟩
          · have hfx := (open_fault hox).1
            have hbx : bndV (knA0 d mm) = .tuple #[rngV (bdF Nm2.a (numsF (knA0 d mm))), rngV (bdF Nm2.n (numsF (knA0 d mm))), I 0] := by rw [bndV, if_pos hox]
            have hA := hless.bounds hri hfx Nm2.a
            have hN := hless.bounds hri hfx Nm2.n
            have houts : ∀ o ∈ allowedF (knA0 d mm), o ∈ allowedF d := fun o h => hless.outs hri h
            generalize bdF Nm2.a (numsF d) = ra at hbd hA
            generalize bdF Nm2.n (numsF d) = rn at hbd hN
            generalize bdF Nm2.a (numsF (knA0 d mm)) = ua at hbx hA
            generalize bdF Nm2.n (numsF (knA0 d mm)) = un at hbx hN
            obtain ⟨ra1, ra2⟩ := ra
            obtain ⟨rn1, rn2⟩ := rn
            obtain ⟨ua1, ua2⟩ := ua
            obtain ⟨un1, un2⟩ := un
            dsimp only at hA hN
            refine RelP.g (ok1 dvRd fun d => fewF d = true) (x := d) ⟨_, rfl, dvRd.grow hg2 hdv, hfw⟩ (Grow.refl _) (fun v G3 h3 hq => W.mk ?_)
            have hg3 := hg2.trans h3
            have hd3 := hq
            obtain ⟨_, _, _, _, _, _, rfl, hq⟩ := hq
            obtain ⟨xx0, yy0, zz0, rfl, _, _⟩ := id hq.a0
            obtain ⟨xx1, yy1, zz1, rfl, _, _⟩ := id hq.a1
            obtain ⟨xx2, yy2, zz2, rfl, _, _⟩ := id hq.n0
            obtain ⟨xx3, yy3, zz3, rfl, _, _⟩ := id hq.n1
            obtain ⟨xx4, yy4, zz4, rfl, _, _⟩ := id hq.ps
            obtain ⟨xx5, yy5, zz5, rfl, _, _⟩ := id hq.qs
            (conv => whnf)
            refine ScaP.g (ok1 dvRd rul) (x := d) ⟨_, rfl, hd3, hr⟩ (fun v hv => W.mk ?_)
            rw [hbd] at hv
            subst hv
            (conv => whnf)
            refine RelP.g (ok1 dvRd fun d => fewF d = true) (x := d) ⟨_, rfl, dvRd.grow hg3 hdv, hfw⟩ (Grow.refl _) (fun v G4 h4 hq => W.mk ?_)
            have hg4 := hg3.trans h4
            have hd4 := hq
            obtain ⟨_, _, _, _, _, _, rfl, hq⟩ := hq
            obtain ⟨xx0, yy0, zz0, rfl, _, _⟩ := id hq.a0
            obtain ⟨xx1, yy1, zz1, rfl, _, _⟩ := id hq.a1
            obtain ⟨xx2, yy2, zz2, rfl, _, _⟩ := id hq.n0
            obtain ⟨xx3, yy3, zz3, rfl, _, _⟩ := id hq.n1
            obtain ⟨xx4, yy4, zz4, rfl, _, _⟩ := id hq.ps
            obtain ⟨xx5, yy5, zz5, rfl, _, _⟩ := id hq.qs
            (conv => whnf)
            refine RelP.g (ok1 dvRd rul) (x := d) ⟨_, rfl, hd4, hr⟩ (Grow.refl _) (fun v G5 h5 hq => W.mk ?_)
            have hg5 := hg4.trans h5
            obtain ⟨w, rfl, al, nl, cl, rfl, hL, hln⟩ := hq
            rw [if_pos hop] at hL
            rw [hop]
            have hLl := hL.len
            (conv => whnf)
            refine ScaP.g (ok1 dvRd rul) (x := (knA0 d mm)) ⟨_, rfl, dvRd.grow (h3.trans (h4.trans h5)) hdx, hrx⟩ (fun v hv => W.mk ?_)
            rw [hbx] at hv
            subst hv
            (conv => whnf)
            repeat' (refine IteP.mk (fun _ => W.mk ?_) (fun _ => W.mk ?_) <;> first | (exfalso; omega) | (conv => whnf))
            refine RelP.g (ok1 dvRd rul) (x := (knA0 d mm)) ⟨_, rfl, dvRd.grow (h3.trans (h4.trans h5)) hdx, hrx⟩ (Grow.refl _) (fun v G6 h6 hq => W.mk ?_)
            have hg6 := hg5.trans h6
            obtain ⟨w, rfl, ao, no, co, rfl, hO, hon⟩ := hq
            rw [if_pos hox] at hO
            rw [hox]
            have hOl := hO.len
            (conv => whnf)
            repeat' (refine IteP.mk (fun _ => W.mk ?_) (fun _ => W.mk ?_) <;> first | (exfalso; omega) | (conv => whnf))
            have hL6 := SlR.grow (G := G5) (G' := G6) (fun _ _ h => h) hL h6
            clear hdx hless hrx
            generalize allowedF d = LD at houts hL6 hLl
            generalize hXL : allowedF _ = LX at houts hO hOl
            refine LoopP.of { α := Nat, fr := fun x => [(15, .v (.slice al nl cl)), (22, .v (.slice ao no co)), (24, .v (I x))], H := fun _ => [], ok := fun i _ => i ≤ no, m := fun x => no - x }
              0 (HeadP.of [] ⟨rfl, rfl, rfl, trivial⟩ trivial) (Nat.zero_le _) (fun _ => ⟨rfl, rfl⟩) (fun (i : Nat) G7 hg7 hx => W.mk ?_)
            dsimp only at hx
            dsimp only
            (conv => whnf)
            refine IteP.mk (fun hlt => W.mk ?_) (fun hge => W.mk ?_) <;> (conv => whnf)
            rotate_left
            · refine ScaP.g okU (x := ()) rfl (fun v hv => W.mk ?_)
              subst hv
              (conv => whnf)
              refine ForkP.mk (fun _ => W.mk ?_) (fun h => by cases h)
              (conv => whnf)
              exact FinP.mk rfl
            have hlt : i < LX.length := by omega
            have hco := (SlR.grow (G := G6) (G' := G7) (fun _ _ h => h) hO hg7).el hlt
            have hin := houts _ (List.getElem_mem hlt)
            generalize LX[i] = o at hco hin
            refine LoopP.of { α := Nat, fr := fun x => [(15, .v (.slice al nl cl)), (22, .v (.slice ao no co)), (24, .v (I i)), (25, .v (.bool ((LD.take x).contains o))), (26, .v (I x))], H := fun _ => [], ok := fun j _ => j ≤ nl, m := fun x => nl - x }
              0 (HeadP.of [] ⟨rfl, rfl, rfl, rfl, rfl, trivial⟩ trivial) (Nat.zero_le _) (fun _ => ⟨rfl, rfl⟩) (fun (j : Nat) G8 hg8 hx2 => W.mk ?_)
            dsimp only at hx2
            dsimp only
            have hco := CellsAt.grow hg8 hco
            generalize hb : (LD.take j).contains o = b
            (conv => whnf)
            refine IteP.mk (fun hlj => W.mk ?_) (fun hgj => W.mk ?_)
            · have hlj : j < LD.length := by omega
              have hcl := (SlR.grow (G := G6) (G' := G8) (fun _ _ h => h) hL6 (hg7.trans hg8)).el hlj
              have hq : (LD.take (j + 1)).contains o = (b || decide (LD[j] = o)) := by
                rw [con_succ hlj, hb]
              generalize LD[j] = e at hcl hq
              cases b
              · (conv => whnf)
                repeat' (first | (refine OblP.mk ?_ (W.mk ?_); (first | trivial | omega | (simp only [inR]; omega) | exact Nat.le_of_ble_eq_true (by rfl) | exact SlR.some (by assumption) (by omega)); (conv => whnf)) | (first | (refine RdP.at (by assumption) (by rfl) (W.mk ?_); (conv => whnf)) | (refine RdP.sub (by assumption) (by rfl) (W.mk ?_); (conv => whnf)) | (refine RdP.sub2 (by assumption) (by rfl) (W.mk ?_); (conv => whnf)) | (refine RdP.sub3 (by assumption) (by rfl) (W.mk ?_); (conv => whnf))))
                refine IteP.mk (fun h => W.mk ?_) (fun h => W.mk ?_) <;> (conv => whnf)
                · repeat' (first | (refine OblP.mk ?_ (W.mk ?_); (first | trivial | omega | (simp only [inR]; omega) | exact Nat.le_of_ble_eq_true (by rfl) | exact SlR.some (by assumption) (by omega)); (conv => whnf)) | (first | (refine RdP.at (by assumption) (by rfl) (W.mk ?_); (conv => whnf)) | (refine RdP.sub (by assumption) (by rfl) (W.mk ?_); (conv => whnf)) | (refine RdP.sub2 (by assumption) (by rfl) (W.mk ?_); (conv => whnf)) | (refine RdP.sub3 (by assumption) (by rfl) (W.mk ?_); (conv => whnf))))
                  refine RoundP.of (j + 1) (HeadP.of [] ⟨rfl, rfl, rfl, ?_, rfl, trivial⟩ trivial) (by show j + 1 ≤ nl; omega) (by simp only; omega)
                  rw [hq, decide_eq_true h]; rfl
                · repeat' (first | (refine OblP.mk ?_ (W.mk ?_); (first | trivial | omega | (simp only [inR]; omega) | exact Nat.le_of_ble_eq_true (by rfl) | exact SlR.some (by assumption) (by omega)); (conv => whnf)) | (first | (refine RdP.at (by assumption) (by rfl) (W.mk ?_); (conv => whnf)) | (refine RdP.sub (by assumption) (by rfl) (W.mk ?_); (conv => whnf)) | (refine RdP.sub2 (by assumption) (by rfl) (W.mk ?_); (conv => whnf)) | (refine RdP.sub3 (by assumption) (by rfl) (W.mk ?_); (conv => whnf))))
                  refine RoundP.of (j + 1) (HeadP.of [] ⟨rfl, rfl, rfl, ?_, rfl, trivial⟩ trivial) (by show j + 1 ≤ nl; omega) (by simp only; omega)
                  rw [hq, decide_eq_false h]; rfl
              · (conv => whnf)
                repeat' (first | (refine OblP.mk ?_ (W.mk ?_); (first | trivial | omega | (simp only [inR]; omega) | exact Nat.le_of_ble_eq_true (by rfl) | exact SlR.some (by assumption) (by omega)); (conv => whnf)) | (first | (refine RdP.at (by assumption) (by rfl) (W.mk ?_); (conv => whnf)) | (refine RdP.sub (by assumption) (by rfl) (W.mk ?_); (conv => whnf)) | (refine RdP.sub2 (by assumption) (by rfl) (W.mk ?_); (conv => whnf)) | (refine RdP.sub3 (by assumption) (by rfl) (W.mk ?_); (conv => whnf))))
                refine RoundP.of (j + 1) (HeadP.of [] ⟨rfl, rfl, rfl, ?_, rfl, trivial⟩ trivial) (by show j + 1 ≤ nl; omega) (by simp only; omega)
                rw [hq]; rfl
            · have : j = LD.length := by omega
              subst this
              rw [List.take_length] at hb
              have : b = true := by rw [← hb]; simpa using hin
              subst this
              (conv => whnf)
              repeat' (first | (refine OblP.mk ?_ (W.mk ?_); (first | trivial | omega | (simp only [inR]; omega) | exact Nat.le_of_ble_eq_true (by rfl) | exact SlR.some (by assumption) (by omega)); (conv => whnf)) | (first | (refine RdP.at (by assumption) (by rfl) (W.mk ?_); (conv => whnf)) | (refine RdP.sub (by assumption) (by rfl) (W.mk ?_); (conv => whnf)) | (refine RdP.sub2 (by assumption) (by rfl) (W.mk ?_); (conv => whnf)) | (refine RdP.sub3 (by assumption) (by rfl) (W.mk ?_); (conv => whnf))))
              refine RoundP.of (i + 1) (HeadP.of [] ⟨rfl, rfl, rfl, trivial⟩ trivial) (by show i + 1 ≤ no; omega) (by simp only; omega)
          · have hbx : bndV (knA0 d mm) = .tuple #[rngV (0, 0), rngV (0, 0), I 9] := by rw [bndV, if_neg (by rw [hox]; decide), hox]
            generalize bdF Nm2.a (numsF d) = ra at hbd
            generalize bdF Nm2.n (numsF d) = rn at hbd
            obtain ⟨ra1, ra2⟩ := ra
            obtain ⟨rn1, rn2⟩ := rn
            refine RelP.g (ok1 dvRd fun d => fewF d = true) (x := d) ⟨_, rfl, dvRd.grow hg2 hdv, hfw⟩ (Grow.refl _) (fun v G3 h3 hq => W.mk ?_)
            have hg3 := hg2.trans h3
            have hd3 := hq
            obtain ⟨_, _, _, _, _, _, rfl, hq⟩ := hq
            obtain ⟨xx0, yy0, zz0, rfl, _, _⟩ := id hq.a0
            obtain ⟨xx1, yy1, zz1, rfl, _, _⟩ := id hq.a1
            obtain ⟨xx2, yy2, zz2, rfl, _, _⟩ := id hq.n0
            obtain ⟨xx3, yy3, zz3, rfl, _, _⟩ := id hq.n1
            obtain ⟨xx4, yy4, zz4, rfl, _, _⟩ := id hq.ps
            obtain ⟨xx5, yy5, zz5, rfl, _, _⟩ := id hq.qs
            (conv => whnf)
            refine ScaP.g (ok1 dvRd rul) (x := d) ⟨_, rfl, hd3, hr⟩ (fun v hv => W.mk ?_)
            rw [hbd] at hv
            subst hv
            (conv => whnf)
            refine RelP.g (ok1 dvRd fun d => fewF d = true) (x := d) ⟨_, rfl, dvRd.grow hg3 hdv, hfw⟩ (Grow.refl _) (fun v G4 h4 hq => W.mk ?_)
            have hg4 := hg3.trans h4
            have hd4 := hq
            obtain ⟨_, _, _, _, _, _, rfl, hq⟩ := hq
            obtain ⟨xx0, yy0, zz0, rfl, _, _⟩ := id hq.a0
            obtain ⟨xx1, yy1, zz1, rfl, _, _⟩ := id hq.a1
            obtain ⟨xx2, yy2, zz2, rfl, _, _⟩ := id hq.n0
            obtain ⟨xx3, yy3, zz3, rfl, _, _⟩ := id hq.n1
            obtain ⟨xx4, yy4, zz4, rfl, _, _⟩ := id hq.ps
            obtain ⟨xx5, yy5, zz5, rfl, _, _⟩ := id hq.qs
            (conv => whnf)
            refine RelP.g (ok1 dvRd rul) (x := d) ⟨_, rfl, hd4, hr⟩ (Grow.refl _) (fun v G5 h5 hq => W.mk ?_)
            have hg5 := hg4.trans h5
            obtain ⟨w, rfl, al, nl, cl, rfl, hL, hln⟩ := hq
            rw [if_pos hop] at hL
            rw [hop]
            have hLl := hL.len
            (conv => whnf)
            refine ScaP.g (ok1 dvRd rul) (x := (knA0 d mm)) ⟨_, rfl, dvRd.grow (h3.trans (h4.trans h5)) hdx, hrx⟩ (fun v hv => W.mk ?_)
            rw [hbx] at hv
            subst hv
            (conv => whnf)
            repeat' (refine IteP.mk (fun _ => W.mk ?_) (fun _ => W.mk ?_) <;> first | (exfalso; omega) | (conv => whnf))
            refine ScaP.g (ok1 dvRd rul) (x := (knA0 d mm)) ⟨_, rfl, dvRd.grow (h3.trans (h4.trans h5)) hdx, hrx⟩ (fun v hv => W.mk ?_)
            rw [if_pos hless.right, if_pos hcl] at hv
            subst hv
            (conv => whnf)
            repeat' (refine IteP.mk (fun _ => W.mk ?_) (fun _ => W.mk ?_) <;> first | (exfalso; omega) | (conv => whnf))
            refine ScaP.g okU (x := ()) rfl (fun v hv => W.mk ?_)
            subst hv
            (conv => whnf)
            refine ForkP.mk (fun _ => W.mk ?_) (fun h => by cases h)
            (conv => whnf)
            exact FinP.mk rfl
        · refine RelP.g (ok3 (slRd intE) intRd booRd fun l _ _ => l.length ≤ 1000) (x := (d.a0, mm, false)) ⟨_, _, _, rfl, ⟨_, _, _, rfl, e0a, f0a⟩, rfl, rfl, by show (d.a0).length ≤ 1000; omega⟩ (Grow.refl _) (fun v G2 h2 hq => W.mk ?_)
          have hg2 := hg1.trans h2
          obtain ⟨b1, b2, b3, rfl, hb1, hb2⟩ := hq
          have htl : SlV intE G2 (.slice b1 b2 b3) (toldF d.a0 mm ((d.a1).contains mm)) := by rw [hb]; exact ⟨_, _, _, rfl, hb1, hb2⟩
          (conv => whnf)
          repeat' (first | (refine OblP.mk ?_ (W.mk ?_); (first | trivial | omega | (simp only [inR]; omega) | exact Nat.le_of_ble_eq_true (by rfl) | exact SlR.some (by assumption) (by omega)); (conv => whnf)) | (first | (refine RdP.at (by assumption) (by rfl) (W.mk ?_); (conv => whnf)) | (refine RdP.sub (by assumption) (by rfl) (W.mk ?_); (conv => whnf)) | (refine RdP.sub2 (by assumption) (by rfl) (W.mk ?_); (conv => whnf)) | (refine RdP.sub3 (by assumption) (by rfl) (W.mk ?_); (conv => whnf))))
          have hdx : DvV G2 (.agg #[I d.m, (.slice b1 b2 b3), (.slice ex1 ey1 ez1), (.slice ex2 ey2 ez2), (.slice ex3 ey3 ez3), .slice ex4 ey4 ez4, .slice ex5 ey5 ez5, U d.rule, I d.need, I d.quorum, U d.tie]) (knA0 d mm) :=
            ⟨_, _, _, _, _, _, rfl, htl, (SlV.grow h2 ⟨_, _, _, rfl, e1a, f1a⟩), (SlV.grow h2 ⟨_, _, _, rfl, e2a, f2a⟩), (SlV.grow h2 ⟨_, _, _, rfl, e3a, f3a⟩), SlV.grow h2 ⟨_, _, _, rfl, e4a, f4a⟩, SlV.grow h2 ⟨_, _, _, rfl, e5a, f5a⟩⟩
          have hless := (lessA0 hri hn0 hn1)
          have hrx : rul (knA0 d mm) := hr
          have hbd : bndV d = .tuple #[rngV (bdF Nm2.a (numsF d)), rngV (bdF Nm2.n (numsF d)), I 0] := by rw [bndV, if_pos hop]
          rcases hless.open_ hop with hox | ⟨hox, hcl⟩
          · have hfx := (open_fault hox).1
            have hbx : bndV (knA0 d mm) = .tuple #[rngV (bdF Nm2.a (numsF (knA0 d mm))), rngV (bdF Nm2.n (numsF (knA0 d mm))), I 0] := by rw [bndV, if_pos hox]
            have hA := hless.bounds hri hfx Nm2.a
            have hN := hless.bounds hri hfx Nm2.n
            have houts : ∀ o ∈ allowedF (knA0 d mm), o ∈ allowedF d := fun o h => hless.outs hri h
            generalize bdF Nm2.a (numsF d) = ra at hbd hA
            generalize bdF Nm2.n (numsF d) = rn at hbd hN
            generalize bdF Nm2.a (numsF (knA0 d mm)) = ua at hbx hA
            generalize bdF Nm2.n (numsF (knA0 d mm)) = un at hbx hN
            obtain ⟨ra1, ra2⟩ := ra
            obtain ⟨rn1, rn2⟩ := rn
            obtain ⟨ua1, ua2⟩ := ua
            obtain ⟨un1, un2⟩ := un
            dsimp only at hA hN
            refine RelP.g (ok1 dvRd fun d => fewF d = true) (x := d) ⟨_, rfl, dvRd.grow hg2 hdv, hfw⟩ (Grow.refl _) (fun v G3 h3 hq => W.mk ?_)
            have hg3 := hg2.trans h3
            have hd3 := hq
            obtain ⟨_, _, _, _, _, _, rfl, hq⟩ := hq
            obtain ⟨xx0, yy0, zz0, rfl, _, _⟩ := id hq.a0
            obtain ⟨xx1, yy1, zz1, rfl, _, _⟩ := id hq.a1
            obtain ⟨xx2, yy2, zz2, rfl, _, _⟩ := id hq.n0
            obtain ⟨xx3, yy3, zz3, rfl, _, _⟩ := id hq.n1
            obtain ⟨xx4, yy4, zz4, rfl, _, _⟩ := id hq.ps
            obtain ⟨xx5, yy5, zz5, rfl, _, _⟩ := id hq.qs
            (conv => whnf)
            refine ScaP.g (ok1 dvRd rul) (x := d) ⟨_, rfl, hd3, hr⟩ (fun v hv => W.mk ?_)
            rw [hbd] at hv
            subst hv
            (conv => whnf)
            refine RelP.g (ok1 dvRd fun d => fewF d = true) (x := d) ⟨_, rfl, dvRd.grow hg3 hdv, hfw⟩ (Grow.refl _) (fun v G4 h4 hq => W.mk ?_)
            have hg4 := hg3.trans h4
            have hd4 := hq
            obtain ⟨_, _, _, _, _, _, rfl, hq⟩ := hq
            obtain ⟨xx0, yy0, zz0, rfl, _, _⟩ := id hq.a0
            obtain ⟨xx1, yy1, zz1, rfl, _, _⟩ := id hq.a1
            obtain ⟨xx2, yy2, zz2, rfl, _, _⟩ := id hq.n0
            obtain ⟨xx3, yy3, zz3, rfl, _, _⟩ := id hq.n1
            obtain ⟨xx4, yy4, zz4, rfl, _, _⟩ := id hq.ps
            obtain ⟨xx5, yy5, zz5, rfl, _, _⟩ := id hq.qs
            (conv => whnf)
            refine RelP.g (ok1 dvRd rul) (x := d) ⟨_, rfl, hd4, hr⟩ (Grow.refl _) (fun v G5 h5 hq => W.mk ?_)
            have hg5 := hg4.trans h5
            obtain ⟨w, rfl, al, nl, cl, rfl, hL, hln⟩ := hq
            rw [if_pos hop] at hL
            rw [hop]
            have hLl := hL.len
            (conv => whnf)
            refine ScaP.g (ok1 dvRd rul) (x := (knA0 d mm)) ⟨_, rfl, dvRd.grow (h3.trans (h4.trans h5)) hdx, hrx⟩ (fun v hv => W.mk ?_)
            rw [hbx] at hv
            subst hv
            (conv => whnf)
            repeat' (refine IteP.mk (fun _ => W.mk ?_) (fun _ => W.mk ?_) <;> first | (exfalso; omega) | (conv => whnf))
            refine RelP.g (ok1 dvRd rul) (x := (knA0 d mm)) ⟨_, rfl, dvRd.grow (h3.trans (h4.trans h5)) hdx, hrx⟩ (Grow.refl _) (fun v G6 h6 hq => W.mk ?_)
            have hg6 := hg5.trans h6
            obtain ⟨w, rfl, ao, no, co, rfl, hO, hon⟩ := hq
            rw [if_pos hox] at hO
            rw [hox]
            have hOl := hO.len
            (conv => whnf)
            repeat' (refine IteP.mk (fun _ => W.mk ?_) (fun _ => W.mk ?_) <;> first | (exfalso; omega) | (conv => whnf))
            have hL6 := SlR.grow (G := G5) (G' := G6) (fun _ _ h => h) hL h6
            clear hdx hless hrx
            generalize allowedF d = LD at houts hL6 hLl
            generalize hXL : allowedF _ = LX at houts hO hOl
            refine LoopP.of { α := Nat, fr := fun x => [(15, .v (.slice al nl cl)), (22, .v (.slice ao no co)), (24, .v (I x))], H := fun _ => [], ok := fun i _ => i ≤ no, m := fun x => no - x }
              0 (HeadP.of [] ⟨rfl, rfl, rfl, trivial⟩ trivial) (Nat.zero_le _) (fun _ => ⟨rfl, rfl⟩) (fun (i : Nat) G7 hg7 hx => W.mk ?_)
            dsimp only at hx
            dsimp only
            (conv => whnf)
            refine IteP.mk (fun hlt => W.mk ?_) (fun hge => W.mk ?_) <;> (conv => whnf)
            rotate_left
            · refine ScaP.g okU (x := ()) rfl (fun v hv => W.mk ?_)
              subst hv
              (conv => whnf)
              refine ForkP.mk (fun _ => W.mk ?_) (fun h => by cases h)
              (conv => whnf)
              exact FinP.mk rfl
            have hlt : i < LX.length := by omega
            have hco := (SlR.grow (G := G6) (G' := G7) (fun _ _ h => h) hO hg7).el hlt
            have hin := houts _ (List.getElem_mem hlt)
            generalize LX[i] = o at hco hin
            refine LoopP.of { α := Nat, fr := fun x => [(15, .v (.slice al nl cl)), (22, .v (.slice ao no co)), (24, .v (I i)), (25, .v (.bool ((LD.take x).contains o))), (26, .v (I x))], H := fun _ => [], ok := fun j _ => j ≤ nl, m := fun x => nl - x }
              0 (HeadP.of [] ⟨rfl, rfl, rfl, rfl, rfl, trivial⟩ trivial) (Nat.zero_le _) (fun _ => ⟨rfl, rfl⟩) (fun (j : Nat) G8 hg8 hx2 => W.mk ?_)
            dsimp only at hx2
            dsimp only
            have hco := CellsAt.grow hg8 hco
            generalize hb : (LD.take j).contains o = b
            (conv => whnf)
            refine IteP.mk (fun hlj => W.mk ?_) (fun hgj => W.mk ?_)
            · have hlj : j < LD.length := by omega
              have hcl := (SlR.grow (G := G6) (G' := G8) (fun _ _ h => h) hL6 (hg7.trans hg8)).el hlj
              have hq : (LD.take (j + 1)).contains o = (b || decide (LD[j] = o)) := by
                rw [con_succ hlj, hb]
              generalize LD[j] = e at hcl hq
              cases b
              · (conv => whnf)
                repeat' (first | (refine OblP.mk ?_ (W.mk ?_); (first | trivial | omega | (simp only [inR]; omega) | exact Nat.le_of_ble_eq_true (by rfl) | exact SlR.some (by assumption) (by omega)); (conv => whnf)) | (first | (refine RdP.at (by assumption) (by rfl) (W.mk ?_); (conv => whnf)) | (refine RdP.sub (by assumption) (by rfl) (W.mk ?_); (conv => whnf)) | (refine RdP.sub2 (by assumption) (by rfl) (W.mk ?_); (conv => whnf)) | (refine RdP.sub3 (by assumption) (by rfl) (W.mk ?_); (conv => whnf))))
                refine IteP.mk (fun h => W.mk ?_) (fun h => W.mk ?_) <;> (conv => whnf)
                · repeat' (first | (refine OblP.mk ?_ (W.mk ?_); (first | trivial | omega | (simp only [inR]; omega) | exact Nat.le_of_ble_eq_true (by rfl) | exact SlR.some (by assumption) (by omega)); (conv => whnf)) | (first | (refine RdP.at (by assumption) (by rfl) (W.mk ?_); (conv => whnf)) | (refine RdP.sub (by assumption) (by rfl) (W.mk ?_); (conv => whnf)) | (refine RdP.sub2 (by assumption) (by rfl) (W.mk ?_); (conv => whnf)) | (refine RdP.sub3 (by assumption) (by rfl) (W.mk ?_); (conv => whnf))))
                  refine RoundP.of (j + 1) (HeadP.of [] ⟨rfl, rfl, rfl, ?_, rfl, trivial⟩ trivial) (by show j + 1 ≤ nl; omega) (by simp only; omega)
                  rw [hq, decide_eq_true h]; rfl
                · repeat' (first | (refine OblP.mk ?_ (W.mk ?_); (first | trivial | omega | (simp only [inR]; omega) | exact Nat.le_of_ble_eq_true (by rfl) | exact SlR.some (by assumption) (by omega)); (conv => whnf)) | (first | (refine RdP.at (by assumption) (by rfl) (W.mk ?_); (conv => whnf)) | (refine RdP.sub (by assumption) (by rfl) (W.mk ?_); (conv => whnf)) | (refine RdP.sub2 (by assumption) (by rfl) (W.mk ?_); (conv => whnf)) | (refine RdP.sub3 (by assumption) (by rfl) (W.mk ?_); (conv => whnf))))
                  refine RoundP.of (j + 1) (HeadP.of [] ⟨rfl, rfl, rfl, ?_, rfl, trivial⟩ trivial) (by show j + 1 ≤ nl; omega) (by simp only; omega)
                  rw [hq, decide_eq_false h]; rfl
              · (conv => whnf)
                repeat' (first | (refine OblP.mk ?_ (W.mk ?_); (first | trivial | omega | (simp only [inR]; omega) | exact Nat.le_of_ble_eq_true (by rfl) | exact SlR.some (by assumption) (by omega)); (conv => whnf)) | (first | (refine RdP.at (by assumption) (by rfl) (W.mk ?_); (conv => whnf)) | (refine RdP.sub (by assumption) (by rfl) (W.mk ?_); (conv => whnf)) | (refine RdP.sub2 (by assumption) (by rfl) (W.mk ?_); (conv => whnf)) | (refine RdP.sub3 (by assumption) (by rfl) (W.mk ?_); (conv => whnf))))
                refine RoundP.of (j + 1) (HeadP.of [] ⟨rfl, rfl, rfl, ?_, rfl, trivial⟩ trivial) (by show j + 1 ≤ nl; omega) (by simp only; omega)
                rw [hq]; rfl
            · have : j = LD.length := by omega
              subst this
              rw [List.take_length] at hb
              have : b = true := by rw [← hb]; simpa using hin
              subst this
              (conv => whnf)
              repeat' (first | (refine OblP.mk ?_ (W.mk ?_); (first | trivial | omega | (simp only [inR]; omega) | exact Nat.le_of_ble_eq_true (by rfl) | exact SlR.some (by assumption) (by omega)); (conv => whnf)) | (first | (refine RdP.at (by assumption) (by rfl) (W.mk ?_); (conv => whnf)) | (refine RdP.sub (by assumption) (by rfl) (W.mk ?_); (conv => whnf)) | (refine RdP.sub2 (by assumption) (by rfl) (W.mk ?_); (conv => whnf)) | (refine RdP.sub3 (by assumption) (by rfl) (W.mk ?_); (conv => whnf))))
              refine RoundP.of (i + 1) (HeadP.of [] ⟨rfl, rfl, rfl, trivial⟩ trivial) (by show i + 1 ≤ no; omega) (by simp only; omega)
          · have hbx : bndV (knA0 d mm) = .tuple #[rngV (0, 0), rngV (0, 0), I 9] := by rw [bndV, if_neg (by rw [hox]; decide), hox]
            generalize bdF Nm2.a (numsF d) = ra at hbd
            generalize bdF Nm2.n (numsF d) = rn at hbd
            obtain ⟨ra1, ra2⟩ := ra
            obtain ⟨rn1, rn2⟩ := rn
            refine RelP.g (ok1 dvRd fun d => fewF d = true) (x := d) ⟨_, rfl, dvRd.grow hg2 hdv, hfw⟩ (Grow.refl _) (fun v G3 h3 hq => W.mk ?_)
            have hg3 := hg2.trans h3
            have hd3 := hq
            obtain ⟨_, _, _, _, _, _, rfl, hq⟩ := hq
            obtain ⟨xx0, yy0, zz0, rfl, _, _⟩ := id hq.a0
            obtain ⟨xx1, yy1, zz1, rfl, _, _⟩ := id hq.a1
            obtain ⟨xx2, yy2, zz2, rfl, _, _⟩ := id hq.n0
            obtain ⟨xx3, yy3, zz3, rfl, _, _⟩ := id hq.n1
            obtain ⟨xx4, yy4, zz4, rfl, _, _⟩ := id hq.ps
            obtain ⟨xx5, yy5, zz5, rfl, _, _⟩ := id hq.qs
            (conv => whnf)
            refine ScaP.g (ok1 dvRd rul) (x := d) ⟨_, rfl, hd3, hr⟩ (fun v hv => W.mk ?_)
            rw [hbd] at hv
            subst hv
            (conv => whnf)
            refine RelP.g (ok1 dvRd fun d => fewF d = true) (x := d) ⟨_, rfl, dvRd.grow hg3 hdv, hfw⟩ (Grow.refl _) (fun v G4 h4 hq => W.mk ?_)
            have hg4 := hg3.trans h4
            have hd4 := hq
            obtain ⟨_, _, _, _, _, _, rfl, hq⟩ := hq
            obtain ⟨xx0, yy0, zz0, rfl, _, _⟩ := id hq.a0
            obtain ⟨xx1, yy1, zz1, rfl, _, _⟩ := id hq.a1
            obtain ⟨xx2, yy2, zz2, rfl, _, _⟩ := id hq.n0
            obtain ⟨xx3, yy3, zz3, rfl, _, _⟩ := id hq.n1
            obtain ⟨xx4, yy4, zz4, rfl, _, _⟩ := id hq.ps
            obtain ⟨xx5, yy5, zz5, rfl, _, _⟩ := id hq.qs
            (conv => whnf)
            refine RelP.g (ok1 dvRd rul) (x := d) ⟨_, rfl, hd4, hr⟩ (Grow.refl _) (fun v G5 h5 hq => W.mk ?_)
            have hg5 := hg4.trans h5
            obtain ⟨w, rfl, al, nl, cl, rfl, hL, hln⟩ := hq
            rw [if_pos hop] at hL
            rw [hop]
            have hLl := hL.len
            (conv => whnf)
            refine ScaP.g (ok1 dvRd rul) (x := (knA0 d mm)) ⟨_, rfl, dvRd.grow (h3.trans (h4.trans h5)) hdx, hrx⟩ (fun v hv => W.mk ?_)
            rw [hbx] at hv
            subst hv
            (conv => whnf)
            repeat' (refine IteP.mk (fun _ => W.mk ?_) (fun _ => W.mk ?_) <;> first | (exfalso; omega) | (conv => whnf))
            refine ScaP.g (ok1 dvRd rul) (x := (knA0 d mm)) ⟨_, rfl, dvRd.grow (h3.trans (h4.trans h5)) hdx, hrx⟩ (fun v hv => W.mk ?_)
            rw [if_pos hless.right, if_pos hcl] at hv
            subst hv
            (conv => whnf)
            repeat' (refine IteP.mk (fun _ => W.mk ?_) (fun _ => W.mk ?_) <;> first | (exfalso; omega) | (conv => whnf))
            refine ScaP.g okU (x := ()) rfl (fun v hv => W.mk ?_)
            subst hv
            (conv => whnf)
            refine ForkP.mk (fun _ => W.mk ?_) (fun h => by cases h)
            (conv => whnf)
            exact FinP.mk rfl
      · repeat' (first | (refine OblP.mk ?_ (W.mk ?_); (first | trivial | omega | (simp only [inR]; omega) | exact Nat.le_of_ble_eq_true (by rfl) | exact SlR.some (by assumption) (by omega)); (conv => whnf)) | (first | (refine RdP.at (by assumption) (by rfl) (W.mk ?_); (conv => whnf)) | (refine RdP.sub (by assumption) (by rfl) (W.mk ?_); (conv => whnf)) | (refine RdP.sub2 (by assumption) (by rfl) (W.mk ?_); (conv => whnf)) | (refine RdP.sub3 (by assumption) (by rfl) (W.mk ?_); (conv => whnf))))
        refine EqsP.mk ⟨[.val (.slice ex2 ey2 ez2)], rfl, rfl, W.mk ?_⟩
        (conv => whnf)
        repeat' (first | (refine OblP.mk ?_ (W.mk ?_); (first | trivial | omega | (simp only [inR]; omega) | exact Nat.le_of_ble_eq_true (by rfl) | exact SlR.some (by assumption) (by omega)); (conv => whnf)) | (first | (refine RdP.at (by assumption) (by rfl) (W.mk ?_); (conv => whnf)) | (refine RdP.sub (by assumption) (by rfl) (W.mk ?_); (conv => whnf)) | (refine RdP.sub2 (by assumption) (by rfl) (W.mk ?_); (conv => whnf)) | (refine RdP.sub3 (by assumption) (by rfl) (W.mk ?_); (conv => whnf))))
        refine EqsP.mk ⟨[.val (.slice x3 y3 z3)], rfl, rfl, W.mk ?_⟩
        (conv => whnf)
        refine ScaP.g (ok2 (slRd intE) intRd fun _ _ => True) (x := (d.n1, mm)) ⟨_, _, rfl, ⟨_, _, _, rfl, SlR.grow (G := G) (G' := G1) (fun _ _ h => h) ln1 hg1, by have := (ln1).len; omega⟩, rfl, trivial⟩ (fun v hv => W.mk ?_)
        subst hv
        dsimp only
        (conv => whnf)
        refine ForkP.mk (fun hb => W.mk ?_) (fun hb => W.mk ?_) <;> (conv => whnf)
        · refine RelP.g (ok3 (slRd intE) intRd booRd fun l _ _ => l.length ≤ 1000) (x := (d.n0, mm, true)) ⟨_, _, _, rfl, ⟨_, _, _, rfl, e2a, f2a⟩, rfl, rfl, by show (d.n0).length ≤ 1000; omega⟩ (Grow.refl _) (fun v G2 h2 hq => W.mk ?_)
          have hg2 := hg1.trans h2
          obtain ⟨b1, b2, b3, rfl, hb1, hb2⟩ := hq
          have htl : SlV intE G2 (.slice b1 b2 b3) (toldF d.n0 mm ((d.n1).contains mm)) := by rw [hb]; exact ⟨_, _, _, rfl, hb1, hb2⟩
          (conv => whnf)
          repeat' (first | (refine OblP.mk ?_ (W.mk ?_); (first | trivial | omega | (simp only [inR]; omega) | exact Nat.le_of_ble_eq_true (by rfl) | exact SlR.some (by assumption) (by omega)); (conv => whnf)) | (first | (refine RdP.at (by assumption) (by rfl) (W.mk ?_); (conv => whnf)) | (refine RdP.sub (by assumption) (by rfl) (W.mk ?_); (conv => whnf)) | (refine RdP.sub2 (by assumption) (by rfl) (W.mk ?_); (conv => whnf)) | (refine RdP.sub3 (by assumption) (by rfl) (W.mk ?_); (conv => whnf))))
          have hdx : DvV G2 (.agg #[I d.m, (.slice ex0 ey0 ez0), (.slice ex1 ey1 ez1), (.slice b1 b2 b3), (.slice ex3 ey3 ez3), .slice ex4 ey4 ez4, .slice ex5 ey5 ez5, U d.rule, I d.need, I d.quorum, U d.tie]) (knN0 d mm) :=
            ⟨_, _, _, _, _, _, rfl, (SlV.grow h2 ⟨_, _, _, rfl, e0a, f0a⟩), (SlV.grow h2 ⟨_, _, _, rfl, e1a, f1a⟩), htl, (SlV.grow h2 ⟨_, _, _, rfl, e3a, f3a⟩), SlV.grow h2 ⟨_, _, _, rfl, e4a, f4a⟩, SlV.grow h2 ⟨_, _, _, rfl, e5a, f5a⟩⟩
          have hless := (lessN0 hri hn0 hn1)
          have hrx : rul (knN0 d mm) := hr
          have hbd : bndV d = .tuple #[rngV (bdF Nm2.a (numsF d)), rngV (bdF Nm2.n (numsF d)), I 0] := by rw [bndV, if_pos hop]
          rcases hless.open_ hop with hox | ⟨hox, hcl⟩
          · have hfx := (open_fault hox).1
            have hbx : bndV (knN0 d mm) = .tuple #[rngV (bdF Nm2.a (numsF (knN0 d mm))), rngV (bdF Nm2.n (numsF (knN0 d mm))), I 0] := by rw [bndV, if_pos hox]
            have hA := hless.bounds hri hfx Nm2.a
            have hN := hless.bounds hri hfx Nm2.n
            have houts : ∀ o ∈ allowedF (knN0 d mm), o ∈ allowedF d := fun o h => hless.outs hri h
            generalize bdF Nm2.a (numsF d) = ra at hbd hA
            generalize bdF Nm2.n (numsF d) = rn at hbd hN
            generalize bdF Nm2.a (numsF (knN0 d mm)) = ua at hbx hA
            generalize bdF Nm2.n (numsF (knN0 d mm)) = un at hbx hN
            obtain ⟨ra1, ra2⟩ := ra
            obtain ⟨rn1, rn2⟩ := rn
            obtain ⟨ua1, ua2⟩ := ua
            obtain ⟨un1, un2⟩ := un
            dsimp only at hA hN
            refine RelP.g (ok1 dvRd fun d => fewF d = true) (x := d) ⟨_, rfl, dvRd.grow hg2 hdv, hfw⟩ (Grow.refl _) (fun v G3 h3 hq => W.mk ?_)
            have hg3 := hg2.trans h3
            have hd3 := hq
            obtain ⟨_, _, _, _, _, _, rfl, hq⟩ := hq
            obtain ⟨xx0, yy0, zz0, rfl, _, _⟩ := id hq.a0
            obtain ⟨xx1, yy1, zz1, rfl, _, _⟩ := id hq.a1
            obtain ⟨xx2, yy2, zz2, rfl, _, _⟩ := id hq.n0
            obtain ⟨xx3, yy3, zz3, rfl, _, _⟩ := id hq.n1
            obtain ⟨xx4, yy4, zz4, rfl, _, _⟩ := id hq.ps
            obtain ⟨xx5, yy5, zz5, rfl, _, _⟩ := id hq.qs
            (conv => whnf)
            refine ScaP.g (ok1 dvRd rul) (x := d) ⟨_, rfl, hd3, hr⟩ (fun v hv => W.mk ?_)
            rw [hbd] at hv
            subst hv
            (conv => whnf)
            refine RelP.g (ok1 dvRd fun d => fewF d = true) (x := d) ⟨_, rfl, dvRd.grow hg3 hdv, hfw⟩ (Grow.refl _) (fun v G4 h4 hq => W.mk ?_)
            have hg4 := hg3.trans h4
            have hd4 := hq
            obtain ⟨_, _, _, _, _, _, rfl, hq⟩ := hq
            obtain ⟨xx0, yy0, zz0, rfl, _, _⟩ := id hq.a0
            obtain ⟨xx1, yy1, zz1, rfl, _, _⟩ := id hq.a1
            obtain ⟨xx2, yy2, zz2, rfl, _, _⟩ := id hq.n0
            obtain ⟨xx3, yy3, zz3, rfl, _, _⟩ := id hq.n1
            obtain ⟨xx4, yy4, zz4, rfl, _, _⟩ := id hq.ps
            obtain ⟨xx5, yy5, zz5, rfl, _, _⟩ := id hq.qs
            (conv => whnf)
            refine RelP.g (ok1 dvRd rul) (x := d) ⟨_, rfl, hd4, hr⟩ (Grow.refl _) (fun v G5 h5 hq => W.mk ?_)
            have hg5 := hg4.trans h5
            obtain ⟨w, rfl, al, nl, cl, rfl, hL, hln⟩ := hq
            rw [if_pos hop] at hL
            rw [hop]
            have hLl := hL.len
            (conv => whnf)
            refine ScaP.g (ok1 dvRd rul) (x := (knN0 d mm)) ⟨_, rfl, dvRd.grow (h3.trans (h4.trans h5)) hdx, hrx⟩ (fun v hv => W.mk ?_)
            rw [hbx] at hv
            subst hv
            (conv => whnf)
            repeat' (refine IteP.mk (fun _ => W.mk ?_) (fun _ => W.mk ?_) <;> first | (exfalso; omega) | (conv => whnf))
            refine RelP.g (ok1 dvRd rul) (x := (knN0 d mm)) ⟨_, rfl, dvRd.grow (h3.trans (h4.trans h5)) hdx, hrx⟩ (Grow.refl _) (fun v G6 h6 hq => W.mk ?_)
            have hg6 := hg5.trans h6
            obtain ⟨w, rfl, ao, no, co, rfl, hO, hon⟩ := hq
            rw [if_pos hox] at hO
            rw [hox]
            have hOl := hO.len
            (conv => whnf)
            repeat' (refine IteP.mk (fun _ => W.mk ?_) (fun _ => W.mk ?_) <;> first | (exfalso; omega) | (conv => whnf))
            have hL6 := SlR.grow (G := G5) (G' := G6) (fun _ _ h => h) hL h6
            clear hdx hless hrx
            generalize allowedF d = LD at houts hL6 hLl
            generalize hXL : allowedF _ = LX at houts hO hOl
            refine LoopP.of { α := Nat, fr := fun x => [(15, .v (.slice al nl cl)), (22, .v (.slice ao no co)), (24, .v (I x))], H := fun _ => [], ok := fun i _ => i ≤ no, m := fun x => no - x }
              0 (HeadP.of [] ⟨rfl, rfl, rfl, trivial⟩ trivial) (Nat.zero_le _) (fun _ => ⟨rfl, rfl⟩) (fun (i : Nat) G7 hg7 hx => W.mk ?_)
            dsimp only at hx
            dsimp only
            (conv => whnf)
            refine IteP.mk (fun hlt => W.mk ?_) (fun hge => W.mk ?_) <;> (conv => whnf)
            rotate_left
            · refine ScaP.g okU (x := ()) rfl (fun v hv => W.mk ?_)
              subst hv
              (conv => whnf)
              refine ForkP.mk (fun _ => W.mk ?_) (fun h => by cases h)
              (conv => whnf)
              exact FinP.mk rfl
            have hlt : i < LX.length := by omega
            have hco := (SlR.grow (G := G6) (G' := G7) (fun _ _ h => h) hO hg7).el hlt
            have hin := houts _ (List.getElem_mem hlt)
            generalize LX[i] = o at hco hin
            refine LoopP.of { α := Nat, fr := fun x => [(15, .v (.slice al nl cl)), (22, .v (.slice ao no co)), (24, .v (I i)), (25, .v (.bool ((LD.take x).contains o))), (26, .v (I x))], H := fun _ => [], ok := fun j _ => j ≤ nl, m := fun x => nl - x }
              0 (HeadP.of [] ⟨rfl, rfl, rfl, rfl, rfl, trivial⟩ trivial) (Nat.zero_le _) (fun _ => ⟨rfl, rfl⟩) (fun (j : Nat) G8 hg8 hx2 => W.mk ?_)
            dsimp only at hx2
            dsimp only
            have hco := CellsAt.grow hg8 hco
            generalize hb : (LD.take j).contains o = b
            (conv => whnf)
            refine IteP.mk (fun hlj => W.mk ?_) (fun hgj => W.mk ?_)
            · have hlj : j < LD.length := by omega
              have hcl := (SlR.grow (G := G6) (G' := G8) (fun _ _ h => h) hL6 (hg7.trans hg8)).el hlj
              have hq : (LD.take (j + 1)).contains o = (b || decide (LD[j] = o)) := by
                rw [con_succ hlj, hb]
              generalize LD[j] = e at hcl hq
              cases b
              · (conv => whnf)
                repeat' (first | (refine OblP.mk ?_ (W.mk ?_); (first | trivial | omega | (simp only [inR]; omega) | exact Nat.le_of_ble_eq_true (by rfl) | exact SlR.some (by assumption) (by omega)); (conv => whnf)) | (first | (refine RdP.at (by assumption) (by rfl) (W.mk ?_); (conv => whnf)) | (refine RdP.sub (by assumption) (by rfl) (W.mk ?_); (conv => whnf)) | (refine RdP.sub2 (by assumption) (by rfl) (W.mk ?_); (conv => whnf)) | (refine RdP.sub3 (by assumption) (by rfl) (W.mk ?_); (conv => whnf))))
                refine IteP.mk (fun h => W.mk ?_) (fun h => W.mk ?_) <;> (conv => whnf)
                · repeat' (first | (refine OblP.mk ?_ (W.mk ?_); (first | trivial | omega | (simp only [inR]; omega) | exact Nat.le_of_ble_eq_true (by rfl) | exact SlR.some (by assumption) (by omega)); (conv => whnf)) | (first | (refine RdP.at (by assumption) (by rfl) (W.mk ?_); (conv => whnf)) | (refine RdP.sub (by assumption) (by rfl) (W.mk ?_); (conv => whnf)) | (refine RdP.sub2 (by assumption) (by rfl) (W.mk ?_); (conv => whnf)) | (refine RdP.sub3 (by assumption) (by rfl) (W.mk ?_); (conv => whnf))))
                  refine RoundP.of (j + 1) (HeadP.of [] ⟨rfl, rfl, rfl, ?_, rfl, trivial⟩ trivial) (by show j + 1 ≤ nl; omega) (by simp only; omega)
                  rw [hq, decide_eq_true h]; rfl
                · repeat' (first | (refine OblP.mk ?_ (W.mk ?_); (first | trivial | omega | (simp only [inR]; omega) | exact Nat.le_of_ble_eq_true (by rfl) | exact SlR.some (by assumption) (by omega)); (conv => whnf)) | (first | (refine RdP.at (by assumption) (by rfl) (W.mk ?_); (conv => whnf)) | (refine RdP.sub (by assumption) (by rfl) (W.mk ?_); (conv => whnf)) | (refine RdP.sub2 (by assumption) (by rfl) (W.mk ?_); (conv => whnf)) | (refine RdP.sub3 (by assumption) (by rfl) (W.mk ?_); (conv => whnf))))
                  refine RoundP.of (j + 1) (HeadP.of [] ⟨rfl, rfl, rfl, ?_, rfl, trivial⟩ trivial) (by show j + 1 ≤ nl; omega) (by simp only; omega)
                  rw [hq, decide_eq_false h]; rfl
              · (conv => whnf)
                repeat' (first | (refine OblP.mk ?_ (W.mk ?_); (first | trivial | omega | (simp only [inR]; omega) | exact Nat.le_of_ble_eq_true (by rfl) | exact SlR.some (by assumption) (by omega)); (conv => whnf)) | (first | (refine RdP.at (by assumption) (by rfl) (W.mk ?_); (conv => whnf)) | (refine RdP.sub (by assumption) (by rfl) (W.mk ?_); (conv => whnf)) | (refine RdP.sub2 (by assumption) (by rfl) (W.mk ?_); (conv => whnf)) | (refine RdP.sub3 (by assumption) (by rfl) (W.mk ?_); (conv => whnf))))
                refine RoundP.of (j + 1) (HeadP.of [] ⟨rfl, rfl, rfl, ?_, rfl, trivial⟩ trivial) (by show j + 1 ≤ nl; omega) (by simp only; omega)
                rw [hq]; rfl
            · have : j = LD.length := by omega
              subst this
              rw [List.take_length] at hb
              have : b = true := by rw [← hb]; simpa using hin
              subst this
              (conv => whnf)
              repeat' (first | (refine OblP.mk ?_ (W.mk ?_); (first | trivial | omega | (simp only [inR]; omega) | exact Nat.le_of_ble_eq_true (by rfl) | exact SlR.some (by assumption) (by omega)); (conv => whnf)) | (first | (refine RdP.at (by assumption) (by rfl) (W.mk ?_); (conv => whnf)) | (refine RdP.sub (by assumption) (by rfl) (W.mk ?_); (conv => whnf)) | (refine RdP.sub2 (by assumption) (by rfl) (W.mk ?_); (conv => whnf)) | (refine RdP.sub3 (by assumption) (by rfl) (W.mk ?_); (conv => whnf))))
              refine RoundP.of (i + 1) (HeadP.of [] ⟨rfl, rfl, rfl, trivial⟩ trivial) (by show i + 1 ≤ no; omega) (by simp only; omega)
          · have hbx : bndV (knN0 d mm) = .tuple #[rngV (0, 0), rngV (0, 0), I 9] := by rw [bndV, if_neg (by rw [hox]; decide), hox]
            generalize bdF Nm2.a (numsF d) = ra at hbd
            generalize bdF Nm2.n (numsF d) = rn at hbd
            obtain ⟨ra1, ra2⟩ := ra
            obtain ⟨rn1, rn2⟩ := rn
            refine RelP.g (ok1 dvRd fun d => fewF d = true) (x := d) ⟨_, rfl, dvRd.grow hg2 hdv, hfw⟩ (Grow.refl _) (fun v G3 h3 hq => W.mk ?_)
            have hg3 := hg2.trans h3
            have hd3 := hq
            obtain ⟨_, _, _, _, _, _, rfl, hq⟩ := hq
            obtain ⟨xx0, yy0, zz0, rfl, _, _⟩ := id hq.a0
            obtain ⟨xx1, yy1, zz1, rfl, _, _⟩ := id hq.a1
            obtain ⟨xx2, yy2, zz2, rfl, _, _⟩ := id hq.n0
            obtain ⟨xx3, yy3, zz3, rfl, _, _⟩ := id hq.n1
            obtain ⟨xx4, yy4, zz4, rfl, _, _⟩ := id hq.ps
            obtain ⟨xx5, yy5, zz5, rfl, _, _⟩ := id hq.qs
            (conv => whnf)
            refine ScaP.g (ok1 dvRd rul) (x := d) ⟨_, rfl, hd3, hr⟩ (fun v hv => W.mk ?_)
            rw [hbd] at hv
            subst hv
            (conv => whnf)
            refine RelP.g (ok1 dvRd fun d => fewF d = true) (x := d) ⟨_, rfl, dvRd.grow hg3 hdv, hfw⟩ (Grow.refl _) (fun v G4 h4 hq => W.mk ?_)
            have hg4 := hg3.trans h4
            have hd4 := hq
            obtain ⟨_, _, _, _, _, _, rfl, hq⟩ := hq
            obtain ⟨xx0, yy0, zz0, rfl, _, _⟩ := id hq.a0
            obtain ⟨xx1, yy1, zz1, rfl, _, _⟩ := id hq.a1
            obtain ⟨xx2, yy2, zz2, rfl, _, _⟩ := id hq.n0
            obtain ⟨xx3, yy3, zz3, rfl, _, _⟩ := id hq.n1
            obtain ⟨xx4, yy4, zz4, rfl, _, _⟩ := id hq.ps
            obtain ⟨xx5, yy5, zz5, rfl, _, _⟩ := id hq.qs
            (conv => whnf)
            refine RelP.g (ok1 dvRd rul) (x := d) ⟨_, rfl, hd4, hr⟩ (Grow.refl _) (fun v G5 h5 hq => W.mk ?_)
            have hg5 := hg4.trans h5
            obtain ⟨w, rfl, al, nl, cl, rfl, hL, hln⟩ := hq
            rw [if_pos hop] at hL
            rw [hop]
            have hLl := hL.len
            (conv => whnf)
            refine ScaP.g (ok1 dvRd rul) (x := (knN0 d mm)) ⟨_, rfl, dvRd.grow (h3.trans (h4.trans h5)) hdx, hrx⟩ (fun v hv => W.mk ?_)
            rw [hbx] at hv
            subst hv
            (conv => whnf)
            repeat' (refine IteP.mk (fun _ => W.mk ?_) (fun _ => W.mk ?_) <;> first | (exfalso; omega) | (conv => whnf))
            refine ScaP.g (ok1 dvRd rul) (x := (knN0 d mm)) ⟨_, rfl, dvRd.grow (h3.trans (h4.trans h5)) hdx, hrx⟩ (fun v hv => W.mk ?_)
            rw [if_pos hless.right, if_pos hcl] at hv
            subst hv
            (conv => whnf)
            repeat' (refine IteP.mk (fun _ => W.mk ?_) (fun _ => W.mk ?_) <;> first | (exfalso; omega) | (conv => whnf))
            refine ScaP.g okU (x := ()) rfl (fun v hv => W.mk ?_)
            subst hv
            (conv => whnf)
            refine ForkP.mk (fun _ => W.mk ?_) (fun h => by cases h)
            (conv => whnf)
            exact FinP.mk rfl
        · refine RelP.g (ok3 (slRd intE) intRd booRd fun l _ _ => l.length ≤ 1000) (x := (d.n0, mm, false)) ⟨_, _, _, rfl, ⟨_, _, _, rfl, e2a, f2a⟩, rfl, rfl, by show (d.n0).length ≤ 1000; omega⟩ (Grow.refl _) (fun v G2 h2 hq => W.mk ?_)
          have hg2 := hg1.trans h2
          obtain ⟨b1, b2, b3, rfl, hb1, hb2⟩ := hq
          have htl : SlV intE G2 (.slice b1 b2 b3) (toldF d.n0 mm ((d.n1).contains mm)) := by rw [hb]; exact ⟨_, _, _, rfl, hb1, hb2⟩
          (conv => whnf)
          repeat' (first | (refine OblP.mk ?_ (W.mk ?_); (first | trivial | omega | (simp only [inR]; omega) | exact Nat.le_of_ble_eq_true (by rfl) | exact SlR.some (by assumption) (by omega)); (conv => whnf)) | (first | (refine RdP.at (by assumption) (by rfl) (W.mk ?_); (conv => whnf)) | (refine RdP.sub (by assumption) (by rfl) (W.mk ?_); (conv => whnf)) | (refine RdP.sub2 (by assumption) (by rfl) (W.mk ?_); (conv => whnf)) | (refine RdP.sub3 (by assumption) (by rfl) (W.mk ?_); (conv => whnf))))
          have hdx : DvV G2 (.agg #[I d.m, (.slice ex0 ey0 ez0), (.slice ex1 ey1 ez1), (.slice b1 b2 b3), (.slice ex3 ey3 ez3), .slice ex4 ey4 ez4, .slice ex5 ey5 ez5, U d.rule, I d.need, I d.quorum, U d.tie]) (knN0 d mm) :=
            ⟨_, _, _, _, _, _, rfl, (SlV.grow h2 ⟨_, _, _, rfl, e0a, f0a⟩), (SlV.grow h2 ⟨_, _, _, rfl, e1a, f1a⟩), htl, (SlV.grow h2 ⟨_, _, _, rfl, e3a, f3a⟩), SlV.grow h2 ⟨_, _, _, rfl, e4a, f4a⟩, SlV.grow h2 ⟨_, _, _, rfl, e5a, f5a⟩⟩
          have hless := (lessN0 hri hn0 hn1)
          have hrx : rul (knN0 d mm) := hr
          have hbd : bndV d = .tuple #[rngV (bdF Nm2.a (numsF d)), rngV (bdF Nm2.n (numsF d)), I 0] := by rw [bndV, if_pos hop]
          rcases hless.open_ hop with hox | ⟨hox, hcl⟩
          · have hfx := (open_fault hox).1
            have hbx : bndV (knN0 d mm) = .tuple #[rngV (bdF Nm2.a (numsF (knN0 d mm))), rngV (bdF Nm2.n (numsF (knN0 d mm))), I 0] := by rw [bndV, if_pos hox]
            have hA := hless.bounds hri hfx Nm2.a
            have hN := hless.bounds hri hfx Nm2.n
            have houts : ∀ o ∈ allowedF (knN0 d mm), o ∈ allowedF d := fun o h => hless.outs hri h
            generalize bdF Nm2.a (numsF d) = ra at hbd hA
            generalize bdF Nm2.n (numsF d) = rn at hbd hN
            generalize bdF Nm2.a (numsF (knN0 d mm)) = ua at hbx hA
            generalize bdF Nm2.n (numsF (knN0 d mm)) = un at hbx hN
            obtain ⟨ra1, ra2⟩ := ra
            obtain ⟨rn1, rn2⟩ := rn
            obtain ⟨ua1, ua2⟩ := ua
            obtain ⟨un1, un2⟩ := un
            dsimp only at hA hN
            refine RelP.g (ok1 dvRd fun d => fewF d = true) (x := d) ⟨_, rfl, dvRd.grow hg2 hdv, hfw⟩ (Grow.refl _) (fun v G3 h3 hq => W.mk ?_)
            have hg3 := hg2.trans h3
            have hd3 := hq
            obtain ⟨_, _, _, _, _, _, rfl, hq⟩ := hq
            obtain ⟨xx0, yy0, zz0, rfl, _, _⟩ := id hq.a0
            obtain ⟨xx1, yy1, zz1, rfl, _, _⟩ := id hq.a1
            obtain ⟨xx2, yy2, zz2, rfl, _, _⟩ := id hq.n0
            obtain ⟨xx3, yy3, zz3, rfl, _, _⟩ := id hq.n1
            obtain ⟨xx4, yy4, zz4, rfl, _, _⟩ := id hq.ps
            obtain ⟨xx5, yy5, zz5, rfl, _, _⟩ := id hq.qs
            (conv => whnf)
            refine ScaP.g (ok1 dvRd rul) (x := d) ⟨_, rfl, hd3, hr⟩ (fun v hv => W.mk ?_)
            rw [hbd] at hv
            subst hv
            (conv => whnf)
            refine RelP.g (ok1 dvRd fun d => fewF d = true) (x := d) ⟨_, rfl, dvRd.grow hg3 hdv, hfw⟩ (Grow.refl _) (fun v G4 h4 hq => W.mk ?_)
            have hg4 := hg3.trans h4
            have hd4 := hq
            obtain ⟨_, _, _, _, _, _, rfl, hq⟩ := hq
            obtain ⟨xx0, yy0, zz0, rfl, _, _⟩ := id hq.a0
            obtain ⟨xx1, yy1, zz1, rfl, _, _⟩ := id hq.a1
            obtain ⟨xx2, yy2, zz2, rfl, _, _⟩ := id hq.n0
            obtain ⟨xx3, yy3, zz3, rfl, _, _⟩ := id hq.n1
            obtain ⟨xx4, yy4, zz4, rfl, _, _⟩ := id hq.ps
            obtain ⟨xx5, yy5, zz5, rfl, _, _⟩ := id hq.qs
            (conv => whnf)
            refine RelP.g (ok1 dvRd rul) (x := d) ⟨_, rfl, hd4, hr⟩ (Grow.refl _) (fun v G5 h5 hq => W.mk ?_)
            have hg5 := hg4.trans h5
            obtain ⟨w, rfl, al, nl, cl, rfl, hL, hln⟩ := hq
            rw [if_pos hop] at hL
            rw [hop]
            have hLl := hL.len
            (conv => whnf)
            refine ScaP.g (ok1 dvRd rul) (x := (knN0 d mm)) ⟨_, rfl, dvRd.grow (h3.trans (h4.trans h5)) hdx, hrx⟩ (fun v hv => W.mk ?_)
            rw [hbx] at hv
            subst hv
            (conv => whnf)
            repeat' (refine IteP.mk (fun _ => W.mk ?_) (fun _ => W.mk ?_) <;> first | (exfalso; omega) | (conv => whnf))
            refine RelP.g (ok1 dvRd rul) (x := (knN0 d mm)) ⟨_, rfl, dvRd.grow (h3.trans (h4.trans h5)) hdx, hrx⟩ (Grow.refl _) (fun v G6 h6 hq => W.mk ?_)
            have hg6 := hg5.trans h6
            obtain ⟨w, rfl, ao, no, co, rfl, hO, hon⟩ := hq
            rw [if_pos hox] at hO
            rw [hox]
            have hOl := hO.len
            (conv => whnf)
            repeat' (refine IteP.mk (fun _ => W.mk ?_) (fun _ => W.mk ?_) <;> first | (exfalso; omega) | (conv => whnf))
            have hL6 := SlR.grow (G := G5) (G' := G6) (fun _ _ h => h) hL h6
            clear hdx hless hrx
            generalize allowedF d = LD at houts hL6 hLl
            generalize hXL : allowedF _ = LX at houts hO hOl
            refine LoopP.of { α := Nat, fr := fun x => [(15, .v (.slice al nl cl)), (22, .v (.slice ao no co)), (24, .v (I x))], H := fun _ => [], ok := fun i _ => i ≤ no, m := fun x => no - x }
              0 (HeadP.of [] ⟨rfl, rfl, rfl, trivial⟩ trivial) (Nat.zero_le _) (fun _ => ⟨rfl, rfl⟩) (fun (i : Nat) G7 hg7 hx => W.mk ?_)
            dsimp only at hx
            dsimp only
            (conv => whnf)
            refine IteP.mk (fun hlt => W.mk ?_) (fun hge => W.mk ?_) <;> (conv => whnf)
            rotate_left
            · refine ScaP.g okU (x := ()) rfl (fun v hv => W.mk ?_)
              subst hv
              (conv => whnf)
              refine ForkP.mk (fun _ => W.mk ?_) (fun h => by cases h)
              (conv => whnf)
              exact FinP.mk rfl
            have hlt : i < LX.length := by omega
            have hco := (SlR.grow (G := G6) (G' := G7) (fun _ _ h => h) hO hg7).el hlt
            have hin := houts _ (List.getElem_mem hlt)
            generalize LX[i] = o at hco hin
            refine LoopP.of { α := Nat, fr := fun x => [(15, .v (.slice al nl cl)), (22, .v (.slice ao no co)), (24, .v (I i)), (25, .v (.bool ((LD.take x).contains o))), (26, .v (I x))], H := fun _ => [], ok := fun j _ => j ≤ nl, m := fun x => nl - x }
              0 (HeadP.of [] ⟨rfl, rfl, rfl, rfl, rfl, trivial⟩ trivial) (Nat.zero_le _) (fun _ => ⟨rfl, rfl⟩) (fun (j : Nat) G8 hg8 hx2 => W.mk ?_)
            dsimp only at hx2
            dsimp only
            have hco := CellsAt.grow hg8 hco
            generalize hb : (LD.take j).contains o = b
            (conv => whnf)
            refine IteP.mk (fun hlj => W.mk ?_) (fun hgj => W.mk ?_)
            · have hlj : j < LD.length := by omega
              have hcl := (SlR.grow (G := G6) (G' := G8) (fun _ _ h => h) hL6 (hg7.trans hg8)).el hlj
              have hq : (LD.take (j + 1)).contains o = (b || decide (LD[j] = o)) := by
                rw [con_succ hlj, hb]
              generalize LD[j] = e at hcl hq
              cases b
              · (conv => whnf)
                repeat' (first | (refine OblP.mk ?_ (W.mk ?_); (first | trivial | omega | (simp only [inR]; omega) | exact Nat.le_of_ble_eq_true (by rfl) | exact SlR.some (by assumption) (by omega)); (conv => whnf)) | (first | (refine RdP.at (by assumption) (by rfl) (W.mk ?_); (conv => whnf)) | (refine RdP.sub (by assumption) (by rfl) (W.mk ?_); (conv => whnf)) | (refine RdP.sub2 (by assumption) (by rfl) (W.mk ?_); (conv => whnf)) | (refine RdP.sub3 (by assumption) (by rfl) (W.mk ?_); (conv => whnf))))
                refine IteP.mk (fun h => W.mk ?_) (fun h => W.mk ?_) <;> (conv => whnf)
                · repeat' (first | (refine OblP.mk ?_ (W.mk ?_); (first | trivial | omega | (simp only [inR]; omega) | exact Nat.le_of_ble_eq_true (by rfl) | exact SlR.some (by assumption) (by omega)); (conv => whnf)) | (first | (refine RdP.at (by assumption) (by rfl) (W.mk ?_); (conv => whnf)) | (refine RdP.sub (by assumption) (by rfl) (W.mk ?_); (conv => whnf)) | (refine RdP.sub2 (by assumption) (by rfl) (W.mk ?_); (conv => whnf)) | (refine RdP.sub3 (by assumption) (by rfl) (W.mk ?_); (conv => whnf))))
                  refine RoundP.of (j + 1) (HeadP.of [] ⟨rfl, rfl, rfl, ?_, rfl, trivial⟩ trivial) (by show j + 1 ≤ nl; omega) (by simp only; omega)
                  rw [hq, decide_eq_true h]; rfl
                · repeat' (first | (refine OblP.mk ?_ (W.mk ?_); (first | trivial | omega | (simp only [inR]; omega) | exact Nat.le_of_ble_eq_true (by rfl) | exact SlR.some (by assumption) (by omega)); (conv => whnf)) | (first | (refine RdP.at (by assumption) (by rfl) (W.mk ?_); (conv => whnf)) | (refine RdP.sub (by assumption) (by rfl) (W.mk ?_); (conv => whnf)) | (refine RdP.sub2 (by assumption) (by rfl) (W.mk ?_); (conv => whnf)) | (refine RdP.sub3 (by assumption) (by rfl) (W.mk ?_); (conv => whnf))))
                  refine RoundP.of (j + 1) (HeadP.of [] ⟨rfl, rfl, rfl, ?_, rfl, trivial⟩ trivial) (by show j + 1 ≤ nl; omega) (by simp only; omega)
                  rw [hq, decide_eq_false h]; rfl
              · (conv => whnf)
                repeat' (first | (refine OblP.mk ?_ (W.mk ?_); (first | trivial | omega | (simp only [inR]; omega) | exact Nat.le_of_ble_eq_true (by rfl) | exact SlR.some (by assumption) (by omega)); (conv => whnf)) | (first | (refine RdP.at (by assumption) (by rfl) (W.mk ?_); (conv => whnf)) | (refine RdP.sub (by assumption) (by rfl) (W.mk ?_); (conv => whnf)) | (refine RdP.sub2 (by assumption) (by rfl) (W.mk ?_); (conv => whnf)) | (refine RdP.sub3 (by assumption) (by rfl) (W.mk ?_); (conv => whnf))))
                refine RoundP.of (j + 1) (HeadP.of [] ⟨rfl, rfl, rfl, ?_, rfl, trivial⟩ trivial) (by show j + 1 ≤ nl; omega) (by simp only; omega)
                rw [hq]; rfl
            · have : j = LD.length := by omega
              subst this
              rw [List.take_length] at hb
              have : b = true := by rw [← hb]; simpa using hin
              subst this
              (conv => whnf)
              repeat' (first | (refine OblP.mk ?_ (W.mk ?_); (first | trivial | omega | (simp only [inR]; omega) | exact Nat.le_of_ble_eq_true (by rfl) | exact SlR.some (by assumption) (by omega)); (conv => whnf)) | (first | (refine RdP.at (by assumption) (by rfl) (W.mk ?_); (conv => whnf)) | (refine RdP.sub (by assumption) (by rfl) (W.mk ?_); (conv => whnf)) | (refine RdP.sub2 (by assumption) (by rfl) (W.mk ?_); (conv => whnf)) | (refine RdP.sub3 (by assumption) (by rfl) (W.mk ?_); (conv => whnf))))
              refine RoundP.of (i + 1) (HeadP.of [] ⟨rfl, rfl, rfl, trivial⟩ trivial) (by show i + 1 ≤ no; omega) (by simp only; omega)
          · have hbx : bndV (knN0 d mm) = .tuple #[rngV (0, 0), rngV (0, 0), I 9] := by rw [bndV, if_neg (by rw [hox]; decide), hox]
            generalize bdF Nm2.a (numsF d) = ra at hbd
            generalize bdF Nm2.n (numsF d) = rn at hbd
            obtain ⟨ra1, ra2⟩ := ra
            obtain ⟨rn1, rn2⟩ := rn
            refine RelP.g (ok1 dvRd fun d => fewF d = true) (x := d) ⟨_, rfl, dvRd.grow hg2 hdv, hfw⟩ (Grow.refl _) (fun v G3 h3 hq => W.mk ?_)
            have hg3 := hg2.trans h3
            have hd3 := hq
            obtain ⟨_, _, _, _, _, _, rfl, hq⟩ := hq
            obtain ⟨xx0, yy0, zz0, rfl, _, _⟩ := id hq.a0
            obtain ⟨xx1, yy1, zz1, rfl, _, _⟩ := id hq.a1
            obtain ⟨xx2, yy2, zz2, rfl, _, _⟩ := id hq.n0
            obtain ⟨xx3, yy3, zz3, rfl, _, _⟩ := id hq.n1
            obtain ⟨xx4, yy4, zz4, rfl, _, _⟩ := id hq.ps
            obtain ⟨xx5, yy5, zz5, rfl, _, _⟩ := id hq.qs
            (conv => whnf)
            refine ScaP.g (ok1 dvRd rul) (x := d) ⟨_, rfl, hd3, hr⟩ (fun v hv => W.mk ?_)
            rw [hbd] at hv
            subst hv
            (conv => whnf)
            refine RelP.g (ok1 dvRd fun d => fewF d = true) (x := d) ⟨_, rfl, dvRd.grow hg3 hdv, hfw⟩ (Grow.refl _) (fun v G4 h4 hq => W.mk ?_)
            have hg4 := hg3.trans h4
            have hd4 := hq
            obtain ⟨_, _, _, _, _, _, rfl, hq⟩ := hq
            obtain ⟨xx0, yy0, zz0, rfl, _, _⟩ := id hq.a0
            obtain ⟨xx1, yy1, zz1, rfl, _, _⟩ := id hq.a1
            obtain ⟨xx2, yy2, zz2, rfl, _, _⟩ := id hq.n0
            obtain ⟨xx3, yy3, zz3, rfl, _, _⟩ := id hq.n1
            obtain ⟨xx4, yy4, zz4, rfl, _, _⟩ := id hq.ps
            obtain ⟨xx5, yy5, zz5, rfl, _, _⟩ := id hq.qs
            (conv => whnf)
            refine RelP.g (ok1 dvRd rul) (x := d) ⟨_, rfl, hd4, hr⟩ (Grow.refl _) (fun v G5 h5 hq => W.mk ?_)
            have hg5 := hg4.trans h5
            obtain ⟨w, rfl, al, nl, cl, rfl, hL, hln⟩ := hq
            rw [if_pos hop] at hL
            rw [hop]
            have hLl := hL.len
            (conv => whnf)
            refine ScaP.g (ok1 dvRd rul) (x := (knN0 d mm)) ⟨_, rfl, dvRd.grow (h3.trans (h4.trans h5)) hdx, hrx⟩ (fun v hv => W.mk ?_)
            rw [hbx] at hv
            subst hv
            (conv => whnf)
            repeat' (refine IteP.mk (fun _ => W.mk ?_) (fun _ => W.mk ?_) <;> first | (exfalso; omega) | (conv => whnf))
            refine ScaP.g (ok1 dvRd rul) (x := (knN0 d mm)) ⟨_, rfl, dvRd.grow (h3.trans (h4.trans h5)) hdx, hrx⟩ (fun v hv => W.mk ?_)
            rw [if_pos hless.right, if_pos hcl] at hv
            subst hv
            (conv => whnf)
            repeat' (refine IteP.mk (fun _ => W.mk ?_) (fun _ => W.mk ?_) <;> first | (exfalso; omega) | (conv => whnf))
            refine ScaP.g okU (x := ()) rfl (fun v hv => W.mk ?_)
            subst hv
            (conv => whnf)
            refine ForkP.mk (fun _ => W.mk ?_) (fun h => by cases h)
            (conv => whnf)
            exact FinP.mk rfl
    · (conv => whnf)
      refine ForkP.mk (fun hay => W.mk ?_) (fun hay => W.mk ?_) <;> (conv => whnf)
      · repeat' (first | (refine OblP.mk ?_ (W.mk ?_); (first | trivial | omega | (simp only [inR]; omega) | exact Nat.le_of_ble_eq_true (by rfl) | exact SlR.some (by assumption) (by omega)); (conv => whnf)) | (first | (refine RdP.at (by assumption) (by rfl) (W.mk ?_); (conv => whnf)) | (refine RdP.sub (by assumption) (by rfl) (W.mk ?_); (conv => whnf)) | (refine RdP.sub2 (by assumption) (by rfl) (W.mk ?_); (conv => whnf)) | (refine RdP.sub3 (by assumption) (by rfl) (W.mk ?_); (conv => whnf))))
        refine EqsP.mk ⟨[.val (.slice ex1 ey1 ez1)], rfl, rfl, W.mk ?_⟩
        (conv => whnf)
        repeat' (first | (refine OblP.mk ?_ (W.mk ?_); (first | trivial | omega | (simp only [inR]; omega) | exact Nat.le_of_ble_eq_true (by rfl) | exact SlR.some (by assumption) (by omega)); (conv => whnf)) | (first | (refine RdP.at (by assumption) (by rfl) (W.mk ?_); (conv => whnf)) | (refine RdP.sub (by assumption) (by rfl) (W.mk ?_); (conv => whnf)) | (refine RdP.sub2 (by assumption) (by rfl) (W.mk ?_); (conv => whnf)) | (refine RdP.sub3 (by assumption) (by rfl) (W.mk ?_); (conv => whnf))))
        refine EqsP.mk ⟨[.val (.slice x0 y0 z0)], rfl, rfl, W.mk ?_⟩
        (conv => whnf)
        refine ScaP.g (ok2 (slRd intE) intRd fun _ _ => True) (x := (d.a0, mm)) ⟨_, _, rfl, ⟨_, _, _, rfl, SlR.grow (G := G) (G' := G1) (fun _ _ h => h) la0 hg1, by have := (la0).len; omega⟩, rfl, trivial⟩ (fun v hv => W.mk ?_)
        subst hv
        dsimp only
        (conv => whnf)
        refine ForkP.mk (fun hb => W.mk ?_) (fun hb => W.mk ?_) <;> (conv => whnf)
        · refine RelP.g (ok3 (slRd intE) intRd booRd fun l _ _ => l.length ≤ 1000) (x := (d.a1, mm, true)) ⟨_, _, _, rfl, ⟨_, _, _, rfl, e1a, f1a⟩, rfl, rfl, by show (d.a1).length ≤ 1000; omega⟩ (Grow.refl _) (fun v G2 h2 hq => W.mk ?_)
          have hg2 := hg1.trans h2
          obtain ⟨b1, b2, b3, rfl, hb1, hb2⟩ := hq
          have htl : SlV intE G2 (.slice b1 b2 b3) (toldF d.a1 mm ((d.a0).contains mm)) := by rw [hb]; exact ⟨_, _, _, rfl, hb1, hb2⟩
          (conv => whnf)
          repeat' (first | (refine OblP.mk ?_ (W.mk ?_); (first | trivial | omega | (simp only [inR]; omega) | exact Nat.le_of_ble_eq_true (by rfl) | exact SlR.some (by assumption) (by omega)); (conv => whnf)) | (first | (refine RdP.at (by assumption) (by rfl) (W.mk ?_); (conv => whnf)) | (refine RdP.sub (by assumption) (by rfl) (W.mk ?_); (conv => whnf)) | (refine RdP.sub2 (by assumption) (by rfl) (W.mk ?_); (conv => whnf)) | (refine RdP.sub3 (by assumption) (by rfl) (W.mk ?_); (conv => whnf))))
          have hdx : DvV G2 (.agg #[I d.m, (.slice ex0 ey0 ez0), (.slice b1 b2 b3), (.slice ex2 ey2 ez2), (.slice ex3 ey3 ez3), .slice ex4 ey4 ez4, .slice ex5 ey5 ez5, U d.rule, I d.need, I d.quorum, U d.tie]) (knA1 d mm) :=
            ⟨_, _, _, _, _, _, rfl, (SlV.grow h2 ⟨_, _, _, rfl, e0a, f0a⟩), htl, (SlV.grow h2 ⟨_, _, _, rfl, e2a, f2a⟩), (SlV.grow h2 ⟨_, _, _, rfl, e3a, f3a⟩), SlV.grow h2 ⟨_, _, _, rfl, e4a, f4a⟩, SlV.grow h2 ⟨_, _, _, rfl, e5a, f5a⟩⟩
          have hless := (lessA1 hri hn0 hn1)
          have hrx : rul (knA1 d mm) := hr
          have hbd : bndV d = .tuple #[rngV (bdF Nm2.a (numsF d)), rngV (bdF Nm2.n (numsF d)), I 0] := by rw [bndV, if_pos hop]
          rcases hless.open_ hop with hox | ⟨hox, hcl⟩
          · have hfx := (open_fault hox).1
            have hbx : bndV (knA1 d mm) = .tuple #[rngV (bdF Nm2.a (numsF (knA1 d mm))), rngV (bdF Nm2.n (numsF (knA1 d mm))), I 0] := by rw [bndV, if_pos hox]
            have hA := hless.bounds hri hfx Nm2.a
            have hN := hless.bounds hri hfx Nm2.n
            have houts : ∀ o ∈ allowedF (knA1 d mm), o ∈ allowedF d := fun o h => hless.outs hri h
            generalize bdF Nm2.a (numsF d) = ra at hbd hA
            generalize bdF Nm2.n (numsF d) = rn at hbd hN
            generalize bdF Nm2.a (numsF (knA1 d mm)) = ua at hbx hA
            generalize bdF Nm2.n (numsF (knA1 d mm)) = un at hbx hN
            obtain ⟨ra1, ra2⟩ := ra
            obtain ⟨rn1, rn2⟩ := rn
            obtain ⟨ua1, ua2⟩ := ua
            obtain ⟨un1, un2⟩ := un
            dsimp only at hA hN
            refine RelP.g (ok1 dvRd fun d => fewF d = true) (x := d) ⟨_, rfl, dvRd.grow hg2 hdv, hfw⟩ (Grow.refl _) (fun v G3 h3 hq => W.mk ?_)
            have hg3 := hg2.trans h3
            have hd3 := hq
            obtain ⟨_, _, _, _, _, _, rfl, hq⟩ := hq
            obtain ⟨xx0, yy0, zz0, rfl, _, _⟩ := id hq.a0
            obtain ⟨xx1, yy1, zz1, rfl, _, _⟩ := id hq.a1
            obtain ⟨xx2, yy2, zz2, rfl, _, _⟩ := id hq.n0
            obtain ⟨xx3, yy3, zz3, rfl, _, _⟩ := id hq.n1
            obtain ⟨xx4, yy4, zz4, rfl, _, _⟩ := id hq.ps
            obtain ⟨xx5, yy5, zz5, rfl, _, _⟩ := id hq.qs
            (conv => whnf)
            refine ScaP.g (ok1 dvRd rul) (x := d) ⟨_, rfl, hd3, hr⟩ (fun v hv => W.mk ?_)
            rw [hbd] at hv
            subst hv
            (conv => whnf)
            refine RelP.g (ok1 dvRd fun d => fewF d = true) (x := d) ⟨_, rfl, dvRd.grow hg3 hdv, hfw⟩ (Grow.refl _) (fun v G4 h4 hq => W.mk ?_)
            have hg4 := hg3.trans h4
            have hd4 := hq
            obtain ⟨_, _, _, _, _, _, rfl, hq⟩ := hq
            obtain ⟨xx0, yy0, zz0, rfl, _, _⟩ := id hq.a0
            obtain ⟨xx1, yy1, zz1, rfl, _, _⟩ := id hq.a1
            obtain ⟨xx2, yy2, zz2, rfl, _, _⟩ := id hq.n0
            obtain ⟨xx3, yy3, zz3, rfl, _, _⟩ := id hq.n1
            obtain ⟨xx4, yy4, zz4, rfl, _, _⟩ := id hq.ps
            obtain ⟨xx5, yy5, zz5, rfl, _, _⟩ := id hq.qs
            (conv => whnf)
            refine RelP.g (ok1 dvRd rul) (x := d) ⟨_, rfl, hd4, hr⟩ (Grow.refl _) (fun v G5 h5 hq => W.mk ?_)
            have hg5 := hg4.trans h5
            obtain ⟨w, rfl, al, nl, cl, rfl, hL, hln⟩ := hq
            rw [if_pos hop] at hL
            rw [hop]
            have hLl := hL.len
            (conv => whnf)
            refine ScaP.g (ok1 dvRd rul) (x := (knA1 d mm)) ⟨_, rfl, dvRd.grow (h3.trans (h4.trans h5)) hdx, hrx⟩ (fun v hv => W.mk ?_)
            rw [hbx] at hv
            subst hv
            (conv => whnf)
            repeat' (refine IteP.mk (fun _ => W.mk ?_) (fun _ => W.mk ?_) <;> first | (exfalso; omega) | (conv => whnf))
            refine RelP.g (ok1 dvRd rul) (x := (knA1 d mm)) ⟨_, rfl, dvRd.grow (h3.trans (h4.trans h5)) hdx, hrx⟩ (Grow.refl _) (fun v G6 h6 hq => W.mk ?_)
            have hg6 := hg5.trans h6
            obtain ⟨w, rfl, ao, no, co, rfl, hO, hon⟩ := hq
            rw [if_pos hox] at hO
            rw [hox]
            have hOl := hO.len
            (conv => whnf)
            repeat' (refine IteP.mk (fun _ => W.mk ?_) (fun _ => W.mk ?_) <;> first | (exfalso; omega) | (conv => whnf))
            have hL6 := SlR.grow (G := G5) (G' := G6) (fun _ _ h => h) hL h6
            clear hdx hless hrx
            generalize allowedF d = LD at houts hL6 hLl
            generalize hXL : allowedF _ = LX at houts hO hOl
            refine LoopP.of { α := Nat, fr := fun x => [(15, .v (.slice al nl cl)), (22, .v (.slice ao no co)), (24, .v (I x))], H := fun _ => [], ok := fun i _ => i ≤ no, m := fun x => no - x }
              0 (HeadP.of [] ⟨rfl, rfl, rfl, trivial⟩ trivial) (Nat.zero_le _) (fun _ => ⟨rfl, rfl⟩) (fun (i : Nat) G7 hg7 hx => W.mk ?_)
            dsimp only at hx
            dsimp only
            (conv => whnf)
            refine IteP.mk (fun hlt => W.mk ?_) (fun hge => W.mk ?_) <;> (conv => whnf)
            rotate_left
            · refine ScaP.g okU (x := ()) rfl (fun v hv => W.mk ?_)
              subst hv
              (conv => whnf)
              refine ForkP.mk (fun _ => W.mk ?_) (fun h => by cases h)
              (conv => whnf)
              exact FinP.mk rfl
            have hlt : i < LX.length := by omega
            have hco := (SlR.grow (G := G6) (G' := G7) (fun _ _ h => h) hO hg7).el hlt
            have hin := houts _ (List.getElem_mem hlt)
            generalize LX[i] = o at hco hin
            refine LoopP.of { α := Nat, fr := fun x => [(15, .v (.slice al nl cl)), (22, .v (.slice ao no co)), (24, .v (I i)), (25, .v (.bool ((LD.take x).contains o))), (26, .v (I x))], H := fun _ => [], ok := fun j _ => j ≤ nl, m := fun x => nl - x }
              0 (HeadP.of [] ⟨rfl, rfl, rfl, rfl, rfl, trivial⟩ trivial) (Nat.zero_le _) (fun _ => ⟨rfl, rfl⟩) (fun (j : Nat) G8 hg8 hx2 => W.mk ?_)
            dsimp only at hx2
            dsimp only
            have hco := CellsAt.grow hg8 hco
            generalize hb : (LD.take j).contains o = b
            (conv => whnf)
            refine IteP.mk (fun hlj => W.mk ?_) (fun hgj => W.mk ?_)
            · have hlj : j < LD.length := by omega
              have hcl := (SlR.grow (G := G6) (G' := G8) (fun _ _ h => h) hL6 (hg7.trans hg8)).el hlj
              have hq : (LD.take (j + 1)).contains o = (b || decide (LD[j] = o)) := by
                rw [con_succ hlj, hb]
              generalize LD[j] = e at hcl hq
              cases b
              · (conv => whnf)
                repeat' (first | (refine OblP.mk ?_ (W.mk ?_); (first | trivial | omega | (simp only [inR]; omega) | exact Nat.le_of_ble_eq_true (by rfl) | exact SlR.some (by assumption) (by omega)); (conv => whnf)) | (first | (refine RdP.at (by assumption) (by rfl) (W.mk ?_); (conv => whnf)) | (refine RdP.sub (by assumption) (by rfl) (W.mk ?_); (conv => whnf)) | (refine RdP.sub2 (by assumption) (by rfl) (W.mk ?_); (conv => whnf)) | (refine RdP.sub3 (by assumption) (by rfl) (W.mk ?_); (conv => whnf))))
                refine IteP.mk (fun h => W.mk ?_) (fun h => W.mk ?_) <;> (conv => whnf)
                · repeat' (first | (refine OblP.mk ?_ (W.mk ?_); (first | trivial | omega | (simp only [inR]; omega) | exact Nat.le_of_ble_eq_true (by rfl) | exact SlR.some (by assumption) (by omega)); (conv => whnf)) | (first | (refine RdP.at (by assumption) (by rfl) (W.mk ?_); (conv => whnf)) | (refine RdP.sub (by assumption) (by rfl) (W.mk ?_); (conv => whnf)) | (refine RdP.sub2 (by assumption) (by rfl) (W.mk ?_); (conv => whnf)) | (refine RdP.sub3 (by assumption) (by rfl) (W.mk ?_); (conv => whnf))))
                  refine RoundP.of (j + 1) (HeadP.of [] ⟨rfl, rfl, rfl, ?_, rfl, trivial⟩ trivial) (by show j + 1 ≤ nl; omega) (by simp only; omega)
                  rw [hq, decide_eq_true h]; rfl
                · repeat' (first | (refine OblP.mk ?_ (W.mk ?_); (first | trivial | omega | (simp only [inR]; omega) | exact Nat.le_of_ble_eq_true (by rfl) | exact SlR.some (by assumption) (by omega)); (conv => whnf)) | (first | (refine RdP.at (by assumption) (by rfl) (W.mk ?_); (conv => whnf)) | (refine RdP.sub (by assumption) (by rfl) (W.mk ?_); (conv => whnf)) | (refine RdP.sub2 (by assumption) (by rfl) (W.mk ?_); (conv => whnf)) | (refine RdP.sub3 (by assumption) (by rfl) (W.mk ?_); (conv => whnf))))
                  refine RoundP.of (j + 1) (HeadP.of [] ⟨rfl, rfl, rfl, ?_, rfl, trivial⟩ trivial) (by show j + 1 ≤ nl; omega) (by simp only; omega)
                  rw [hq, decide_eq_false h]; rfl
              · (conv => whnf)
                repeat' (first | (refine OblP.mk ?_ (W.mk ?_); (first | trivial | omega | (simp only [inR]; omega) | exact Nat.le_of_ble_eq_true (by rfl) | exact SlR.some (by assumption) (by omega)); (conv => whnf)) | (first | (refine RdP.at (by assumption) (by rfl) (W.mk ?_); (conv => whnf)) | (refine RdP.sub (by assumption) (by rfl) (W.mk ?_); (conv => whnf)) | (refine RdP.sub2 (by assumption) (by rfl) (W.mk ?_); (conv => whnf)) | (refine RdP.sub3 (by assumption) (by rfl) (W.mk ?_); (conv => whnf))))
                refine RoundP.of (j + 1) (HeadP.of [] ⟨rfl, rfl, rfl, ?_, rfl, trivial⟩ trivial) (by show j + 1 ≤ nl; omega) (by simp only; omega)
                rw [hq]; rfl
            · have : j = LD.length := by omega
              subst this
              rw [List.take_length] at hb
              have : b = true := by rw [← hb]; simpa using hin
              subst this
              (conv => whnf)
              repeat' (first | (refine OblP.mk ?_ (W.mk ?_); (first | trivial | omega | (simp only [inR]; omega) | exact Nat.le_of_ble_eq_true (by rfl) | exact SlR.some (by assumption) (by omega)); (conv => whnf)) | (first | (refine RdP.at (by assumption) (by rfl) (W.mk ?_); (conv => whnf)) | (refine RdP.sub (by assumption) (by rfl) (W.mk ?_); (conv => whnf)) | (refine RdP.sub2 (by assumption) (by rfl) (W.mk ?_); (conv => whnf)) | (refine RdP.sub3 (by assumption) (by rfl) (W.mk ?_); (conv => whnf))))
              refine RoundP.of (i + 1) (HeadP.of [] ⟨rfl, rfl, rfl, trivial⟩ trivial) (by show i + 1 ≤ no; omega) (by simp only; omega)
          · have hbx : bndV (knA1 d mm) = .tuple #[rngV (0, 0), rngV (0, 0), I 9] := by rw [bndV, if_neg (by rw [hox]; decide), hox]
            generalize bdF Nm2.a (numsF d) = ra at hbd
            generalize bdF Nm2.n (numsF d) = rn at hbd
            obtain ⟨ra1, ra2⟩ := ra
            obtain ⟨rn1, rn2⟩ := rn
            refine RelP.g (ok1 dvRd fun d => fewF d = true) (x := d) ⟨_, rfl, dvRd.grow hg2 hdv, hfw⟩ (Grow.refl _) (fun v G3 h3 hq => W.mk ?_)
            have hg3 := hg2.trans h3
            have hd3 := hq
            obtain ⟨_, _, _, _, _, _, rfl, hq⟩ := hq
            obtain ⟨xx0, yy0, zz0, rfl, _, _⟩ := id hq.a0
            obtain ⟨xx1, yy1, zz1, rfl, _, _⟩ := id hq.a1
            obtain ⟨xx2, yy2, zz2, rfl, _, _⟩ := id hq.n0
            obtain ⟨xx3, yy3, zz3, rfl, _, _⟩ := id hq.n1
            obtain ⟨xx4, yy4, zz4, rfl, _, _⟩ := id hq.ps
            obtain ⟨xx5, yy5, zz5, rfl, _, _⟩ := id hq.qs
            (conv => whnf)
            refine ScaP.g (ok1 dvRd rul) (x := d) ⟨_, rfl, hd3, hr⟩ (fun v hv => W.mk ?_)
            rw [hbd] at hv
            subst hv
            (conv => whnf)
            refine RelP.g (ok1 dvRd fun d => fewF d = true) (x := d) ⟨_, rfl, dvRd.grow hg3 hdv, hfw⟩ (Grow.refl _) (fun v G4 h4 hq => W.mk ?_)
            have hg4 := hg3.trans h4
            have hd4 := hq
            obtain ⟨_, _, _, _, _, _, rfl, hq⟩ := hq
            obtain ⟨xx0, yy0, zz0, rfl, _, _⟩ := id hq.a0
            obtain ⟨xx1, yy1, zz1, rfl, _, _⟩ := id hq.a1
            obtain ⟨xx2, yy2, zz2, rfl, _, _⟩ := id hq.n0
            obtain ⟨xx3, yy3, zz3, rfl, _, _⟩ := id hq.n1
            obtain ⟨xx4, yy4, zz4, rfl, _, _⟩ := id hq.ps
            obtain ⟨xx5, yy5, zz5, rfl, _, _⟩ := id hq.qs
            (conv => whnf)
            refine RelP.g (ok1 dvRd rul) (x := d) ⟨_, rfl, hd4, hr⟩ (Grow.refl _) (fun v G5 h5 hq => W.mk ?_)
            have hg5 := hg4.trans h5
            obtain ⟨w, rfl, al, nl, cl, rfl, hL, hln⟩ := hq
            rw [if_pos hop] at hL
            rw [hop]
            have hLl := hL.len
            (conv => whnf)
            refine ScaP.g (ok1 dvRd rul) (x := (knA1 d mm)) ⟨_, rfl, dvRd.grow (h3.trans (h4.trans h5)) hdx, hrx⟩ (fun v hv => W.mk ?_)
            rw [hbx] at hv
            subst hv
            (conv => whnf)
            repeat' (refine IteP.mk (fun _ => W.mk ?_) (fun _ => W.mk ?_) <;> first | (exfalso; omega) | (conv => whnf))
            refine ScaP.g (ok1 dvRd rul) (x := (knA1 d mm)) ⟨_, rfl, dvRd.grow (h3.trans (h4.trans h5)) hdx, hrx⟩ (fun v hv => W.mk ?_)
            rw [if_pos hless.right, if_pos hcl] at hv
            subst hv
            (conv => whnf)
            repeat' (refine IteP.mk (fun _ => W.mk ?_) (fun _ => W.mk ?_) <;> first | (exfalso; omega) | (conv => whnf))
            refine ScaP.g okU (x := ()) rfl (fun v hv => W.mk ?_)
            subst hv
            (conv => whnf)
            refine ForkP.mk (fun _ => W.mk ?_) (fun h => by cases h)
            (conv => whnf)
            exact FinP.mk rfl
        · refine RelP.g (ok3 (slRd intE) intRd booRd fun l _ _ => l.length ≤ 1000) (x := (d.a1, mm, false)) ⟨_, _, _, rfl, ⟨_, _, _, rfl, e1a, f1a⟩, rfl, rfl, by show (d.a1).length ≤ 1000; omega⟩ (Grow.refl _) (fun v G2 h2 hq => W.mk ?_)
          have hg2 := hg1.trans h2
          obtain ⟨b1, b2, b3, rfl, hb1, hb2⟩ := hq
          have htl : SlV intE G2 (.slice b1 b2 b3) (toldF d.a1 mm ((d.a0).contains mm)) := by rw [hb]; exact ⟨_, _, _, rfl, hb1, hb2⟩
          (conv => whnf)
          repeat' (first | (refine OblP.mk ?_ (W.mk ?_); (first | trivial | omega | (simp only [inR]; omega) | exact Nat.le_of_ble_eq_true (by rfl) | exact SlR.some (by assumption) (by omega)); (conv => whnf)) | (first | (refine RdP.at (by assumption) (by rfl) (W.mk ?_); (conv => whnf)) | (refine RdP.sub (by assumption) (by rfl) (W.mk ?_); (conv => whnf)) | (refine RdP.sub2 (by assumption) (by rfl) (W.mk ?_); (conv => whnf)) | (refine RdP.sub3 (by assumption) (by rfl) (W.mk ?_); (conv => whnf))))
          have hdx : DvV G2 (.agg #[I d.m, (.slice ex0 ey0 ez0), (.slice b1 b2 b3), (.slice ex2 ey2 ez2), (.slice ex3 ey3 ez3), .slice ex4 ey4 ez4, .slice ex5 ey5 ez5, U d.rule, I d.need, I d.quorum, U d.tie]) (knA1 d mm) :=
            ⟨_, _, _, _, _, _, rfl, (SlV.grow h2 ⟨_, _, _, rfl, e0a, f0a⟩), htl, (SlV.grow h2 ⟨_, _, _, rfl, e2a, f2a⟩), (SlV.grow h2 ⟨_, _, _, rfl, e3a, f3a⟩), SlV.grow h2 ⟨_, _, _, rfl, e4a, f4a⟩, SlV.grow h2 ⟨_, _, _, rfl, e5a, f5a⟩⟩
          have hless := (lessA1 hri hn0 hn1)
          have hrx : rul (knA1 d mm) := hr
          have hbd : bndV d = .tuple #[rngV (bdF Nm2.a (numsF d)), rngV (bdF Nm2.n (numsF d)), I 0] := by rw [bndV, if_pos hop]
          rcases hless.open_ hop with hox | ⟨hox, hcl⟩
          · have hfx := (open_fault hox).1
            have hbx : bndV (knA1 d mm) = .tuple #[rngV (bdF Nm2.a (numsF (knA1 d mm))), rngV (bdF Nm2.n (numsF (knA1 d mm))), I 0] := by rw [bndV, if_pos hox]
            have hA := hless.bounds hri hfx Nm2.a
            have hN := hless.bounds hri hfx Nm2.n
            have houts : ∀ o ∈ allowedF (knA1 d mm), o ∈ allowedF d := fun o h => hless.outs hri h
            generalize bdF Nm2.a (numsF d) = ra at hbd hA
            generalize bdF Nm2.n (numsF d) = rn at hbd hN
            generalize bdF Nm2.a (numsF (knA1 d mm)) = ua at hbx hA
            generalize bdF Nm2.n (numsF (knA1 d mm)) = un at hbx hN
            obtain ⟨ra1, ra2⟩ := ra
            obtain ⟨rn1, rn2⟩ := rn
            obtain ⟨ua1, ua2⟩ := ua
            obtain ⟨un1, un2⟩ := un
            dsimp only at hA hN
            refine RelP.g (ok1 dvRd fun d => fewF d = true) (x := d) ⟨_, rfl, dvRd.grow hg2 hdv, hfw⟩ (Grow.refl _) (fun v G3 h3 hq => W.mk ?_)
            have hg3 := hg2.trans h3
            have hd3 := hq
            obtain ⟨_, _, _, _, _, _, rfl, hq⟩ := hq
            obtain ⟨xx0, yy0, zz0, rfl, _, _⟩ := id hq.a0
            obtain ⟨xx1, yy1, zz1, rfl, _, _⟩ := id hq.a1
            obtain ⟨xx2, yy2, zz2, rfl, _, _⟩ := id hq.n0
            obtain ⟨xx3, yy3, zz3, rfl, _, _⟩ := id hq.n1
            obtain ⟨xx4, yy4, zz4, rfl, _, _⟩ := id hq.ps
            obtain ⟨xx5, yy5, zz5, rfl, _, _⟩ := id hq.qs
            (conv => whnf)
            refine ScaP.g (ok1 dvRd rul) (x := d) ⟨_, rfl, hd3, hr⟩ (fun v hv => W.mk ?_)
            rw [hbd] at hv
            subst hv
            (conv => whnf)
            refine RelP.g (ok1 dvRd fun d => fewF d = true) (x := d) ⟨_, rfl, dvRd.grow hg3 hdv, hfw⟩ (Grow.refl _) (fun v G4 h4 hq => W.mk ?_)
            have hg4 := hg3.trans h4
            have hd4 := hq
            obtain ⟨_, _, _, _, _, _, rfl, hq⟩ := hq
            obtain ⟨xx0, yy0, zz0, rfl, _, _⟩ := id hq.a0
            obtain ⟨xx1, yy1, zz1, rfl, _, _⟩ := id hq.a1
            obtain ⟨xx2, yy2, zz2, rfl, _, _⟩ := id hq.n0
            obtain ⟨xx3, yy3, zz3, rfl, _, _⟩ := id hq.n1
            obtain ⟨xx4, yy4, zz4, rfl, _, _⟩ := id hq.ps
            obtain ⟨xx5, yy5, zz5, rfl, _, _⟩ := id hq.qs
            (conv => whnf)
            refine RelP.g (ok1 dvRd rul) (x := d) ⟨_, rfl, hd4, hr⟩ (Grow.refl _) (fun v G5 h5 hq => W.mk ?_)
            have hg5 := hg4.trans h5
            obtain ⟨w, rfl, al, nl, cl, rfl, hL, hln⟩ := hq
            rw [if_pos hop] at hL
            rw [hop]
            have hLl := hL.len
            (conv => whnf)
            refine ScaP.g (ok1 dvRd rul) (x := (knA1 d mm)) ⟨_, rfl, dvRd.grow (h3.trans (h4.trans h5)) hdx, hrx⟩ (fun v hv => W.mk ?_)
            rw [hbx] at hv
            subst hv
            (conv => whnf)
            repeat' (refine IteP.mk (fun _ => W.mk ?_) (fun _ => W.mk ?_) <;> first | (exfalso; omega) | (conv => whnf))
            refine RelP.g (ok1 dvRd rul) (x := (knA1 d mm)) ⟨_, rfl, dvRd.grow (h3.trans (h4.trans h5)) hdx, hrx⟩ (Grow.refl _) (fun v G6 h6 hq => W.mk ?_)
            have hg6 := hg5.trans h6
            obtain ⟨w, rfl, ao, no, co, rfl, hO, hon⟩ := hq
            rw [if_pos hox] at hO
            rw [hox]
            have hOl := hO.len
            (conv => whnf)
            repeat' (refine IteP.mk (fun _ => W.mk ?_) (fun _ => W.mk ?_) <;> first | (exfalso; omega) | (conv => whnf))
            have hL6 := SlR.grow (G := G5) (G' := G6) (fun _ _ h => h) hL h6
            clear hdx hless hrx
            generalize allowedF d = LD at houts hL6 hLl
            generalize hXL : allowedF _ = LX at houts hO hOl
            refine LoopP.of { α := Nat, fr := fun x => [(15, .v (.slice al nl cl)), (22, .v (.slice ao no co)), (24, .v (I x))], H := fun _ => [], ok := fun i _ => i ≤ no, m := fun x => no - x }
              0 (HeadP.of [] ⟨rfl, rfl, rfl, trivial⟩ trivial) (Nat.zero_le _) (fun _ => ⟨rfl, rfl⟩) (fun (i : Nat) G7 hg7 hx => W.mk ?_)
            dsimp only at hx
            dsimp only
            (conv => whnf)
            refine IteP.mk (fun hlt => W.mk ?_) (fun hge => W.mk ?_) <;> (conv => whnf)
            rotate_left
            · refine ScaP.g okU (x := ()) rfl (fun v hv => W.mk ?_)
              subst hv
              (conv => whnf)
              refine ForkP.mk (fun _ => W.mk ?_) (fun h => by cases h)
              (conv => whnf)
              exact FinP.mk rfl
            have hlt : i < LX.length := by omega
            have hco := (SlR.grow (G := G6) (G' := G7) (fun _ _ h => h) hO hg7).el hlt
            have hin := houts _ (List.getElem_mem hlt)
            generalize LX[i] = o at hco hin
            refine LoopP.of { α := Nat, fr := fun x => [(15, .v (.slice al nl cl)), (22, .v (.slice ao no co)), (24, .v (I i)), (25, .v (.bool ((LD.take x).contains o))), (26, .v (I x))], H := fun _ => [], ok := fun j _ => j ≤ nl, m := fun x => nl - x }
              0 (HeadP.of [] ⟨rfl, rfl, rfl, rfl, rfl, trivial⟩ trivial) (Nat.zero_le _) (fun _ => ⟨rfl, rfl⟩) (fun (j : Nat) G8 hg8 hx2 => W.mk ?_)
            dsimp only at hx2
            dsimp only
            have hco := CellsAt.grow hg8 hco
            generalize hb : (LD.take j).contains o = b
            (conv => whnf)
            refine IteP.mk (fun hlj => W.mk ?_) (fun hgj => W.mk ?_)
            · have hlj : j < LD.length := by omega
              have hcl := (SlR.grow (G := G6) (G' := G8) (fun _ _ h => h) hL6 (hg7.trans hg8)).el hlj
              have hq : (LD.take (j + 1)).contains o = (b || decide (LD[j] = o)) := by
                rw [con_succ hlj, hb]
              generalize LD[j] = e at hcl hq
              cases b
              · (conv => whnf)
                repeat' (first | (refine OblP.mk ?_ (W.mk ?_); (first | trivial | omega | (simp only [inR]; omega) | exact Nat.le_of_ble_eq_true (by rfl) | exact SlR.some (by assumption) (by omega)); (conv => whnf)) | (first | (refine RdP.at (by assumption) (by rfl) (W.mk ?_); (conv => whnf)) | (refine RdP.sub (by assumption) (by rfl) (W.mk ?_); (conv => whnf)) | (refine RdP.sub2 (by assumption) (by rfl) (W.mk ?_); (conv => whnf)) | (refine RdP.sub3 (by assumption) (by rfl) (W.mk ?_); (conv => whnf))))
                refine IteP.mk (fun h => W.mk ?_) (fun h => W.mk ?_) <;> (conv => whnf)
                · repeat' (first | (refine OblP.mk ?_ (W.mk ?_); (first | trivial | omega | (simp only [inR]; omega) | exact Nat.le_of_ble_eq_true (by rfl) | exact SlR.some (by assumption) (by omega)); (conv => whnf)) | (first | (refine RdP.at (by assumption) (by rfl) (W.mk ?_); (conv => whnf)) | (refine RdP.sub (by assumption) (by rfl) (W.mk ?_); (conv => whnf)) | (refine RdP.sub2 (by assumption) (by rfl) (W.mk ?_); (conv => whnf)) | (refine RdP.sub3 (by assumption) (by rfl) (W.mk ?_); (conv => whnf))))
                  refine RoundP.of (j + 1) (HeadP.of [] ⟨rfl, rfl, rfl, ?_, rfl, trivial⟩ trivial) (by show j + 1 ≤ nl; omega) (by simp only; omega)
                  rw [hq, decide_eq_true h]; rfl
                · repeat' (first | (refine OblP.mk ?_ (W.mk ?_); (first | trivial | omega | (simp only [inR]; omega) | exact Nat.le_of_ble_eq_true (by rfl) | exact SlR.some (by assumption) (by omega)); (conv => whnf)) | (first | (refine RdP.at (by assumption) (by rfl) (W.mk ?_); (conv => whnf)) | (refine RdP.sub (by assumption) (by rfl) (W.mk ?_); (conv => whnf)) | (refine RdP.sub2 (by assumption) (by rfl) (W.mk ?_); (conv => whnf)) | (refine RdP.sub3 (by assumption) (by rfl) (W.mk ?_); (conv => whnf))))
                  refine RoundP.of (j + 1) (HeadP.of [] ⟨rfl, rfl, rfl, ?_, rfl, trivial⟩ trivial) (by show j + 1 ≤ nl; omega) (by simp only; omega)
                  rw [hq, decide_eq_false h]; rfl
              · (conv => whnf)
                repeat' (first | (refine OblP.mk ?_ (W.mk ?_); (first | trivial | omega | (simp only [inR]; omega) | exact Nat.le_of_ble_eq_true (by rfl) | exact SlR.some (by assumption) (by omega)); (conv => whnf)) | (first | (refine RdP.at (by assumption) (by rfl) (W.mk ?_); (conv => whnf)) | (refine RdP.sub (by assumption) (by rfl) (W.mk ?_); (conv => whnf)) | (refine RdP.sub2 (by assumption) (by rfl) (W.mk ?_); (conv => whnf)) | (refine RdP.sub3 (by assumption) (by rfl) (W.mk ?_); (conv => whnf))))
                refine RoundP.of (j + 1) (HeadP.of [] ⟨rfl, rfl, rfl, ?_, rfl, trivial⟩ trivial) (by show j + 1 ≤ nl; omega) (by simp only; omega)
                rw [hq]; rfl
            · have : j = LD.length := by omega
              subst this
              rw [List.take_length] at hb
              have : b = true := by rw [← hb]; simpa using hin
              subst this
              (conv => whnf)
              repeat' (first | (refine OblP.mk ?_ (W.mk ?_); (first | trivial | omega | (simp only [inR]; omega) | exact Nat.le_of_ble_eq_true (by rfl) | exact SlR.some (by assumption) (by omega)); (conv => whnf)) | (first | (refine RdP.at (by assumption) (by rfl) (W.mk ?_); (conv => whnf)) | (refine RdP.sub (by assumption) (by rfl) (W.mk ?_); (conv => whnf)) | (refine RdP.sub2 (by assumption) (by rfl) (W.mk ?_); (conv => whnf)) | (refine RdP.sub3 (by assumption) (by rfl) (W.mk ?_); (conv => whnf))))
              refine RoundP.of (i + 1) (HeadP.of [] ⟨rfl, rfl, rfl, trivial⟩ trivial) (by show i + 1 ≤ no; omega) (by simp only; omega)
          · have hbx : bndV (knA1 d mm) = .tuple #[rngV (0, 0), rngV (0, 0), I 9] := by rw [bndV, if_neg (by rw [hox]; decide), hox]
            generalize bdF Nm2.a (numsF d) = ra at hbd
            generalize bdF Nm2.n (numsF d) = rn at hbd
            obtain ⟨ra1, ra2⟩ := ra
            obtain ⟨rn1, rn2⟩ := rn
            refine RelP.g (ok1 dvRd fun d => fewF d = true) (x := d) ⟨_, rfl, dvRd.grow hg2 hdv, hfw⟩ (Grow.refl _) (fun v G3 h3 hq => W.mk ?_)
            have hg3 := hg2.trans h3
            have hd3 := hq
            obtain ⟨_, _, _, _, _, _, rfl, hq⟩ := hq
            obtain ⟨xx0, yy0, zz0, rfl, _, _⟩ := id hq.a0
            obtain ⟨xx1, yy1, zz1, rfl, _, _⟩ := id hq.a1
            obtain ⟨xx2, yy2, zz2, rfl, _, _⟩ := id hq.n0
            obtain ⟨xx3, yy3, zz3, rfl, _, _⟩ := id hq.n1
            obtain ⟨xx4, yy4, zz4, rfl, _, _⟩ := id hq.ps
            obtain ⟨xx5, yy5, zz5, rfl, _, _⟩ := id hq.qs
            (conv => whnf)
            refine ScaP.g (ok1 dvRd rul) (x := d) ⟨_, rfl, hd3, hr⟩ (fun v hv => W.mk ?_)
            rw [hbd] at hv
            subst hv
            (conv => whnf)
            refine RelP.g (ok1 dvRd fun d => fewF d = true) (x := d) ⟨_, rfl, dvRd.grow hg3 hdv, hfw⟩ (Grow.refl _) (fun v G4 h4 hq => W.mk ?_)
            have hg4 := hg3.trans h4
            have hd4 := hq
            obtain ⟨_, _, _, _, _, _, rfl, hq⟩ := hq
            obtain ⟨xx0, yy0, zz0, rfl, _, _⟩ := id hq.a0
            obtain ⟨xx1, yy1, zz1, rfl, _, _⟩ := id hq.a1
            obtain ⟨xx2, yy2, zz2, rfl, _, _⟩ := id hq.n0
            obtain ⟨xx3, yy3, zz3, rfl, _, _⟩ := id hq.n1
            obtain ⟨xx4, yy4, zz4, rfl, _, _⟩ := id hq.ps
            obtain ⟨xx5, yy5, zz5, rfl, _, _⟩ := id hq.qs
            (conv => whnf)
            refine RelP.g (ok1 dvRd rul) (x := d) ⟨_, rfl, hd4, hr⟩ (Grow.refl _) (fun v G5 h5 hq => W.mk ?_)
            have hg5 := hg4.trans h5
            obtain ⟨w, rfl, al, nl, cl, rfl, hL, hln⟩ := hq
            rw [if_pos hop] at hL
            rw [hop]
            have hLl := hL.len
            (conv => whnf)
            refine ScaP.g (ok1 dvRd rul) (x := (knA1 d mm)) ⟨_, rfl, dvRd.grow (h3.trans (h4.trans h5)) hdx, hrx⟩ (fun v hv => W.mk ?_)
            rw [hbx] at hv
            subst hv
            (conv => whnf)
            repeat' (refine IteP.mk (fun _ => W.mk ?_) (fun _ => W.mk ?_) <;> first | (exfalso; omega) | (conv => whnf))
            refine ScaP.g (ok1 dvRd rul) (x := (knA1 d mm)) ⟨_, rfl, dvRd.grow (h3.trans (h4.trans h5)) hdx, hrx⟩ (fun v hv => W.mk ?_)
            rw [if_pos hless.right, if_pos hcl] at hv
            subst hv
            (conv => whnf)
            repeat' (refine IteP.mk (fun _ => W.mk ?_) (fun _ => W.mk ?_) <;> first | (exfalso; omega) | (conv => whnf))
            refine ScaP.g okU (x := ()) rfl (fun v hv => W.mk ?_)
            subst hv
            (conv => whnf)
            refine ForkP.mk (fun _ => W.mk ?_) (fun h => by cases h)
            (conv => whnf)
            exact FinP.mk rfl
      · repeat' (first | (refine OblP.mk ?_ (W.mk ?_); (first | trivial | omega | (simp only [inR]; omega) | exact Nat.le_of_ble_eq_true (by rfl) | exact SlR.some (by assumption) (by omega)); (conv => whnf)) | (first | (refine RdP.at (by assumption) (by rfl) (W.mk ?_); (conv => whnf)) | (refine RdP.sub (by assumption) (by rfl) (W.mk ?_); (conv => whnf)) | (refine RdP.sub2 (by assumption) (by rfl) (W.mk ?_); (conv => whnf)) | (refine RdP.sub3 (by assumption) (by rfl) (W.mk ?_); (conv => whnf))))
        refine EqsP.mk ⟨[.val (.slice ex3 ey3 ez3)], rfl, rfl, W.mk ?_⟩
        (conv => whnf)
        repeat' (first | (refine OblP.mk ?_ (W.mk ?_); (first | trivial | omega | (simp only [inR]; omega) | exact Nat.le_of_ble_eq_true (by rfl) | exact SlR.some (by assumption) (by omega)); (conv => whnf)) | (first | (refine RdP.at (by assumption) (by rfl) (W.mk ?_); (conv => whnf)) | (refine RdP.sub (by assumption) (by rfl) (W.mk ?_); (conv => whnf)) | (refine RdP.sub2 (by assumption) (by rfl) (W.mk ?_); (conv => whnf)) | (refine RdP.sub3 (by assumption) (by rfl) (W.mk ?_); (conv => whnf))))
        refine EqsP.mk ⟨[.val (.slice x2 y2 z2)], rfl, rfl, W.mk ?_⟩
        (conv => whnf)
        refine ScaP.g (ok2 (slRd intE) intRd fun _ _ => True) (x := (d.n0, mm)) ⟨_, _, rfl, ⟨_, _, _, rfl, SlR.grow (G := G) (G' := G1) (fun _ _ h => h) ln0 hg1, by have := (ln0).len; omega⟩, rfl, trivial⟩ (fun v hv => W.mk ?_)
        subst hv
        dsimp only
        (conv => whnf)
        refine ForkP.mk (fun hb => W.mk ?_) (fun hb => W.mk ?_) <;> (conv => whnf)
        · refine RelP.g (ok3 (slRd intE) intRd booRd fun l _ _ => l.length ≤ 1000) (x := (d.n1, mm, true)) ⟨_, _, _, rfl, ⟨_, _, _, rfl, e3a, f3a⟩, rfl, rfl, by show (d.n1).length ≤ 1000; omega⟩ (Grow.refl _) (fun v G2 h2 hq => W.mk ?_)
          have hg2 := hg1.trans h2
          obtain ⟨b1, b2, b3, rfl, hb1, hb2⟩ := hq
          have htl : SlV intE G2 (.slice b1 b2 b3) (toldF d.n1 mm ((d.n0).contains mm)) := by rw [hb]; exact ⟨_, _, _, rfl, hb1, hb2⟩
          (conv => whnf)
          repeat' (first | (refine OblP.mk ?_ (W.mk ?_); (first | trivial | omega | (simp only [inR]; omega) | exact Nat.le_of_ble_eq_true (by rfl) | exact SlR.some (by assumption) (by omega)); (conv => whnf)) | (first | (refine RdP.at (by assumption) (by rfl) (W.mk ?_); (conv => whnf)) | (refine RdP.sub (by assumption) (by rfl) (W.mk ?_); (conv => whnf)) | (refine RdP.sub2 (by assumption) (by rfl) (W.mk ?_); (conv => whnf)) | (refine RdP.sub3 (by assumption) (by rfl) (W.mk ?_); (conv => whnf))))
          have hdx : DvV G2 (.agg #[I d.m, (.slice ex0 ey0 ez0), (.slice ex1 ey1 ez1), (.slice ex2 ey2 ez2), (.slice b1 b2 b3), .slice ex4 ey4 ez4, .slice ex5 ey5 ez5, U d.rule, I d.need, I d.quorum, U d.tie]) (knN1 d mm) :=
            ⟨_, _, _, _, _, _, rfl, (SlV.grow h2 ⟨_, _, _, rfl, e0a, f0a⟩), (SlV.grow h2 ⟨_, _, _, rfl, e1a, f1a⟩), (SlV.grow h2 ⟨_, _, _, rfl, e2a, f2a⟩), htl, SlV.grow h2 ⟨_, _, _, rfl, e4a, f4a⟩, SlV.grow h2 ⟨_, _, _, rfl, e5a, f5a⟩⟩
          have hless := (lessN1 hri hn0 hn1)
          have hrx : rul (knN1 d mm) := hr
          have hbd : bndV d = .tuple #[rngV (bdF Nm2.a (numsF d)), rngV (bdF Nm2.n (numsF d)), I 0] := by rw [bndV, if_pos hop]
          rcases hless.open_ hop with hox | ⟨hox, hcl⟩
          · have hfx := (open_fault hox).1
            have hbx : bndV (knN1 d mm) = .tuple #[rngV (bdF Nm2.a (numsF (knN1 d mm))), rngV (bdF Nm2.n (numsF (knN1 d mm))), I 0] := by rw [bndV, if_pos hox]
            have hA := hless.bounds hri hfx Nm2.a
            have hN := hless.bounds hri hfx Nm2.n
            have houts : ∀ o ∈ allowedF (knN1 d mm), o ∈ allowedF d := fun o h => hless.outs hri h
            generalize bdF Nm2.a (numsF d) = ra at hbd hA
            generalize bdF Nm2.n (numsF d) = rn at hbd hN
            generalize bdF Nm2.a (numsF (knN1 d mm)) = ua at hbx hA
            generalize bdF Nm2.n (numsF (knN1 d mm)) = un at hbx hN
            obtain ⟨ra1, ra2⟩ := ra
            obtain ⟨rn1, rn2⟩ := rn
            obtain ⟨ua1, ua2⟩ := ua
            obtain ⟨un1, un2⟩ := un
            dsimp only at hA hN
            refine RelP.g (ok1 dvRd fun d => fewF d = true) (x := d) ⟨_, rfl, dvRd.grow hg2 hdv, hfw⟩ (Grow.refl _) (fun v G3 h3 hq => W.mk ?_)
            have hg3 := hg2.trans h3
            have hd3 := hq
            obtain ⟨_, _, _, _, _, _, rfl, hq⟩ := hq
            obtain ⟨xx0, yy0, zz0, rfl, _, _⟩ := id hq.a0
            obtain ⟨xx1, yy1, zz1, rfl, _, _⟩ := id hq.a1
            obtain ⟨xx2, yy2, zz2, rfl, _, _⟩ := id hq.n0
            obtain ⟨xx3, yy3, zz3, rfl, _, _⟩ := id hq.n1
            obtain ⟨xx4, yy4, zz4, rfl, _, _⟩ := id hq.ps
            obtain ⟨xx5, yy5, zz5, rfl, _, _⟩ := id hq.qs
            (conv => whnf)
            refine ScaP.g (ok1 dvRd rul) (x := d) ⟨_, rfl, hd3, hr⟩ (fun v hv => W.mk ?_)
            rw [hbd] at hv
            subst hv
            (conv => whnf)
            refine RelP.g (ok1 dvRd fun d => fewF d = true) (x := d) ⟨_, rfl, dvRd.grow hg3 hdv, hfw⟩ (Grow.refl _) (fun v G4 h4 hq => W.mk ?_)
            have hg4 := hg3.trans h4
            have hd4 := hq
            obtain ⟨_, _, _, _, _, _, rfl, hq⟩ := hq
            obtain ⟨xx0, yy0, zz0, rfl, _, _⟩ := id hq.a0
            obtain ⟨xx1, yy1, zz1, rfl, _, _⟩ := id hq.a1
            obtain ⟨xx2, yy2, zz2, rfl, _, _⟩ := id hq.n0
            obtain ⟨xx3, yy3, zz3, rfl, _, _⟩ := id hq.n1
            obtain ⟨xx4, yy4, zz4, rfl, _, _⟩ := id hq.ps
            obtain ⟨xx5, yy5, zz5, rfl, _, _⟩ := id hq.qs
            (conv => whnf)
            refine RelP.g (ok1 dvRd rul) (x := d) ⟨_, rfl, hd4, hr⟩ (Grow.refl _) (fun v G5 h5 hq => W.mk ?_)
            have hg5 := hg4.trans h5
            obtain ⟨w, rfl, al, nl, cl, rfl, hL, hln⟩ := hq
            rw [if_pos hop] at hL
            rw [hop]
            have hLl := hL.len
            (conv => whnf)
            refine ScaP.g (ok1 dvRd rul) (x := (knN1 d mm)) ⟨_, rfl, dvRd.grow (h3.trans (h4.trans h5)) hdx, hrx⟩ (fun v hv => W.mk ?_)
            rw [hbx] at hv
            subst hv
            (conv => whnf)
            repeat' (refine IteP.mk (fun _ => W.mk ?_) (fun _ => W.mk ?_) <;> first | (exfalso; omega) | (conv => whnf))
            refine RelP.g (ok1 dvRd rul) (x := (knN1 d mm)) ⟨_, rfl, dvRd.grow (h3.trans (h4.trans h5)) hdx, hrx⟩ (Grow.refl _) (fun v G6 h6 hq => W.mk ?_)
            have hg6 := hg5.trans h6
            obtain ⟨w, rfl, ao, no, co, rfl, hO, hon⟩ := hq
            rw [if_pos hox] at hO
            rw [hox]
            have hOl := hO.len
            (conv => whnf)
            repeat' (refine IteP.mk (fun _ => W.mk ?_) (fun _ => W.mk ?_) <;> first | (exfalso; omega) | (conv => whnf))
            have hL6 := SlR.grow (G := G5) (G' := G6) (fun _ _ h => h) hL h6
            clear hdx hless hrx
            generalize allowedF d = LD at houts hL6 hLl
            generalize hXL : allowedF _ = LX at houts hO hOl
            refine LoopP.of { α := Nat, fr := fun x => [(15, .v (.slice al nl cl)), (22, .v (.slice ao no co)), (24, .v (I x))], H := fun _ => [], ok := fun i _ => i ≤ no, m := fun x => no - x }
              0 (HeadP.of [] ⟨rfl, rfl, rfl, trivial⟩ trivial) (Nat.zero_le _) (fun _ => ⟨rfl, rfl⟩) (fun (i : Nat) G7 hg7 hx => W.mk ?_)
            dsimp only at hx
            dsimp only
            (conv => whnf)
            refine IteP.mk (fun hlt => W.mk ?_) (fun hge => W.mk ?_) <;> (conv => whnf)
            rotate_left
            · refine ScaP.g okU (x := ()) rfl (fun v hv => W.mk ?_)
              subst hv
              (conv => whnf)
              refine ForkP.mk (fun _ => W.mk ?_) (fun h => by cases h)
              (conv => whnf)
              exact FinP.mk rfl
            have hlt : i < LX.length := by omega
            have hco := (SlR.grow (G := G6) (G' := G7) (fun _ _ h => h) hO hg7).el hlt
            have hin := houts _ (List.getElem_mem hlt)
            generalize LX[i] = o at hco hin
            refine LoopP.of { α := Nat, fr := fun x => [(15, .v (.slice al nl cl)), (22, .v (.slice ao no co)), (24, .v (I i)), (25, .v (.bool ((LD.take x).contains o))), (26, .v (I x))], H := fun _ => [], ok := fun j _ => j ≤ nl, m := fun x => nl - x }
              0 (HeadP.of [] ⟨rfl, rfl, rfl, rfl, rfl, trivial⟩ trivial) (Nat.zero_le _) (fun _ => ⟨rfl, rfl⟩) (fun (j : Nat) G8 hg8 hx2 => W.mk ?_)
            dsimp only at hx2
            dsimp only
            have hco := CellsAt.grow hg8 hco
            generalize hb : (LD.take j).contains o = b
            (conv => whnf)
            refine IteP.mk (fun hlj => W.mk ?_) (fun hgj => W.mk ?_)
            · have hlj : j < LD.length := by omega
              have hcl := (SlR.grow (G := G6) (G' := G8) (fun _ _ h => h) hL6 (hg7.trans hg8)).el hlj
              have hq : (LD.take (j + 1)).contains o = (b || decide (LD[j] = o)) := by
                rw [con_succ hlj, hb]
              generalize LD[j] = e at hcl hq
              cases b
              · (conv => whnf)
                repeat' (first | (refine OblP.mk ?_ (W.mk ?_); (first | trivial | omega | (simp only [inR]; omega) | exact Nat.le_of_ble_eq_true (by rfl) | exact SlR.some (by assumption) (by omega)); (conv => whnf)) | (first | (refine RdP.at (by assumption) (by rfl) (W.mk ?_); (conv => whnf)) | (refine RdP.sub (by assumption) (by rfl) (W.mk ?_); (conv => whnf)) | (refine RdP.sub2 (by assumption) (by rfl) (W.mk ?_); (conv => whnf)) | (refine RdP.sub3 (by assumption) (by rfl) (W.mk ?_); (conv => whnf))))
                refine IteP.mk (fun h => W.mk ?_) (fun h => W.mk ?_) <;> (conv => whnf)
                · repeat' (first | (refine OblP.mk ?_ (W.mk ?_); (first | trivial | omega | (simp only [inR]; omega) | exact Nat.le_of_ble_eq_true (by rfl) | exact SlR.some (by assumption) (by omega)); (conv => whnf)) | (first | (refine RdP.at (by assumption) (by rfl) (W.mk ?_); (conv => whnf)) | (refine RdP.sub (by assumption) (by rfl) (W.mk ?_); (conv => whnf)) | (refine RdP.sub2 (by assumption) (by rfl) (W.mk ?_); (conv => whnf)) | (refine RdP.sub3 (by assumption) (by rfl) (W.mk ?_); (conv => whnf))))
                  refine RoundP.of (j + 1) (HeadP.of [] ⟨rfl, rfl, rfl, ?_, rfl, trivial⟩ trivial) (by show j + 1 ≤ nl; omega) (by simp only; omega)
                  rw [hq, decide_eq_true h]; rfl
                · repeat' (first | (refine OblP.mk ?_ (W.mk ?_); (first | trivial | omega | (simp only [inR]; omega) | exact Nat.le_of_ble_eq_true (by rfl) | exact SlR.some (by assumption) (by omega)); (conv => whnf)) | (first | (refine RdP.at (by assumption) (by rfl) (W.mk ?_); (conv => whnf)) | (refine RdP.sub (by assumption) (by rfl) (W.mk ?_); (conv => whnf)) | (refine RdP.sub2 (by assumption) (by rfl) (W.mk ?_); (conv => whnf)) | (refine RdP.sub3 (by assumption) (by rfl) (W.mk ?_); (conv => whnf))))
                  refine RoundP.of (j + 1) (HeadP.of [] ⟨rfl, rfl, rfl, ?_, rfl, trivial⟩ trivial) (by show j + 1 ≤ nl; omega) (by simp only; omega)
                  rw [hq, decide_eq_false h]; rfl
              · (conv => whnf)
                repeat' (first | (refine OblP.mk ?_ (W.mk ?_); (first | trivial | omega | (simp only [inR]; omega) | exact Nat.le_of_ble_eq_true (by rfl) | exact SlR.some (by assumption) (by omega)); (conv => whnf)) | (first | (refine RdP.at (by assumption) (by rfl) (W.mk ?_); (conv => whnf)) | (refine RdP.sub (by assumption) (by rfl) (W.mk ?_); (conv => whnf)) | (refine RdP.sub2 (by assumption) (by rfl) (W.mk ?_); (conv => whnf)) | (refine RdP.sub3 (by assumption) (by rfl) (W.mk ?_); (conv => whnf))))
                refine RoundP.of (j + 1) (HeadP.of [] ⟨rfl, rfl, rfl, ?_, rfl, trivial⟩ trivial) (by show j + 1 ≤ nl; omega) (by simp only; omega)
                rw [hq]; rfl
            · have : j = LD.length := by omega
              subst this
              rw [List.take_length] at hb
              have : b = true := by rw [← hb]; simpa using hin
              subst this
              (conv => whnf)
              repeat' (first | (refine OblP.mk ?_ (W.mk ?_); (first | trivial | omega | (simp only [inR]; omega) | exact Nat.le_of_ble_eq_true (by rfl) | exact SlR.some (by assumption) (by omega)); (conv => whnf)) | (first | (refine RdP.at (by assumption) (by rfl) (W.mk ?_); (conv => whnf)) | (refine RdP.sub (by assumption) (by rfl) (W.mk ?_); (conv => whnf)) | (refine RdP.sub2 (by assumption) (by rfl) (W.mk ?_); (conv => whnf)) | (refine RdP.sub3 (by assumption) (by rfl) (W.mk ?_); (conv => whnf))))
              refine RoundP.of (i + 1) (HeadP.of [] ⟨rfl, rfl, rfl, trivial⟩ trivial) (by show i + 1 ≤ no; omega) (by simp only; omega)
          · have hbx : bndV (knN1 d mm) = .tuple #[rngV (0, 0), rngV (0, 0), I 9] := by rw [bndV, if_neg (by rw [hox]; decide), hox]
            generalize bdF Nm2.a (numsF d) = ra at hbd
            generalize bdF Nm2.n (numsF d) = rn at hbd
            obtain ⟨ra1, ra2⟩ := ra
            obtain ⟨rn1, rn2⟩ := rn
            refine RelP.g (ok1 dvRd fun d => fewF d = true) (x := d) ⟨_, rfl, dvRd.grow hg2 hdv, hfw⟩ (Grow.refl _) (fun v G3 h3 hq => W.mk ?_)
            have hg3 := hg2.trans h3
            have hd3 := hq
            obtain ⟨_, _, _, _, _, _, rfl, hq⟩ := hq
            obtain ⟨xx0, yy0, zz0, rfl, _, _⟩ := id hq.a0
            obtain ⟨xx1, yy1, zz1, rfl, _, _⟩ := id hq.a1
            obtain ⟨xx2, yy2, zz2, rfl, _, _⟩ := id hq.n0
            obtain ⟨xx3, yy3, zz3, rfl, _, _⟩ := id hq.n1
            obtain ⟨xx4, yy4, zz4, rfl, _, _⟩ := id hq.ps
            obtain ⟨xx5, yy5, zz5, rfl, _, _⟩ := id hq.qs
            (conv => whnf)
            refine ScaP.g (ok1 dvRd rul) (x := d) ⟨_, rfl, hd3, hr⟩ (fun v hv => W.mk ?_)
            rw [hbd] at hv
            subst hv
            (conv => whnf)
            refine RelP.g (ok1 dvRd fun d => fewF d = true) (x := d) ⟨_, rfl, dvRd.grow hg3 hdv, hfw⟩ (Grow.refl _) (fun v G4 h4 hq => W.mk ?_)
            have hg4 := hg3.trans h4
            have hd4 := hq
            obtain ⟨_, _, _, _, _, _, rfl, hq⟩ := hq
            obtain ⟨xx0, yy0, zz0, rfl, _, _⟩ := id hq.a0
            obtain ⟨xx1, yy1, zz1, rfl, _, _⟩ := id hq.a1
            obtain ⟨xx2, yy2, zz2, rfl, _, _⟩ := id hq.n0
            obtain ⟨xx3, yy3, zz3, rfl, _, _⟩ := id hq.n1
            obtain ⟨xx4, yy4, zz4, rfl, _, _⟩ := id hq.ps
            obtain ⟨xx5, yy5, zz5, rfl, _, _⟩ := id hq.qs
            (conv => whnf)
            refine RelP.g (ok1 dvRd rul) (x := d) ⟨_, rfl, hd4, hr⟩ (Grow.refl _) (fun v G5 h5 hq => W.mk ?_)
            have hg5 := hg4.trans h5
            obtain ⟨w, rfl, al, nl, cl, rfl, hL, hln⟩ := hq
            rw [if_pos hop] at hL
            rw [hop]
            have hLl := hL.len
            (conv => whnf)
            refine ScaP.g (ok1 dvRd rul) (x := (knN1 d mm)) ⟨_, rfl, dvRd.grow (h3.trans (h4.trans h5)) hdx, hrx⟩ (fun v hv => W.mk ?_)
            rw [hbx] at hv
            subst hv
            (conv => whnf)
            repeat' (refine IteP.mk (fun _ => W.mk ?_) (fun _ => W.mk ?_) <;> first | (exfalso; omega) | (conv => whnf))
            refine ScaP.g (ok1 dvRd rul) (x := (knN1 d mm)) ⟨_, rfl, dvRd.grow (h3.trans (h4.trans h5)) hdx, hrx⟩ (fun v hv => W.mk ?_)
            rw [if_pos hless.right, if_pos hcl] at hv
            subst hv
            (conv => whnf)
            repeat' (refine IteP.mk (fun _ => W.mk ?_) (fun _ => W.mk ?_) <;> first | (exfalso; omega) | (conv => whnf))
            refine ScaP.g okU (x := ()) rfl (fun v hv => W.mk ?_)
            subst hv
            (conv => whnf)
            refine ForkP.mk (fun _ => W.mk ?_) (fun h => by cases h)
            (conv => whnf)
            exact FinP.mk rfl
        · refine RelP.g (ok3 (slRd intE) intRd booRd fun l _ _ => l.length ≤ 1000) (x := (d.n1, mm, false)) ⟨_, _, _, rfl, ⟨_, _, _, rfl, e3a, f3a⟩, rfl, rfl, by show (d.n1).length ≤ 1000; omega⟩ (Grow.refl _) (fun v G2 h2 hq => W.mk ?_)
          have hg2 := hg1.trans h2
          obtain ⟨b1, b2, b3, rfl, hb1, hb2⟩ := hq
          have htl : SlV intE G2 (.slice b1 b2 b3) (toldF d.n1 mm ((d.n0).contains mm)) := by rw [hb]; exact ⟨_, _, _, rfl, hb1, hb2⟩
          (conv => whnf)
          repeat' (first | (refine OblP.mk ?_ (W.mk ?_); (first | trivial | omega | (simp only [inR]; omega) | exact Nat.le_of_ble_eq_true (by rfl) | exact SlR.some (by assumption) (by omega)); (conv => whnf)) | (first | (refine RdP.at (by assumption) (by rfl) (W.mk ?_); (conv => whnf)) | (refine RdP.sub (by assumption) (by rfl) (W.mk ?_); (conv => whnf)) | (refine RdP.sub2 (by assumption) (by rfl) (W.mk ?_); (conv => whnf)) | (refine RdP.sub3 (by assumption) (by rfl) (W.mk ?_); (conv => whnf))))
          have hdx : DvV G2 (.agg #[I d.m, (.slice ex0 ey0 ez0), (.slice ex1 ey1 ez1), (.slice ex2 ey2 ez2), (.slice b1 b2 b3), .slice ex4 ey4 ez4, .slice ex5 ey5 ez5, U d.rule, I d.need, I d.quorum, U d.tie]) (knN1 d mm) :=
            ⟨_, _, _, _, _, _, rfl, (SlV.grow h2 ⟨_, _, _, rfl, e0a, f0a⟩), (SlV.grow h2 ⟨_, _, _, rfl, e1a, f1a⟩), (SlV.grow h2 ⟨_, _, _, rfl, e2a, f2a⟩), htl, SlV.grow h2 ⟨_, _, _, rfl, e4a, f4a⟩, SlV.grow h2 ⟨_, _, _, rfl, e5a, f5a⟩⟩
          have hless := (lessN1 hri hn0 hn1)
          have hrx : rul (knN1 d mm) := hr
          have hbd : bndV d = .tuple #[rngV (bdF Nm2.a (numsF d)), rngV (bdF Nm2.n (numsF d)), I 0] := by rw [bndV, if_pos hop]
          rcases hless.open_ hop with hox | ⟨hox, hcl⟩
          · have hfx := (open_fault hox).1
            have hbx : bndV (knN1 d mm) = .tuple #[rngV (bdF Nm2.a (numsF (knN1 d mm))), rngV (bdF Nm2.n (numsF (knN1 d mm))), I 0] := by rw [bndV, if_pos hox]
            have hA := hless.bounds hri hfx Nm2.a
            have hN := hless.bounds hri hfx Nm2.n
            have houts : ∀ o ∈ allowedF (knN1 d mm), o ∈ allowedF d := fun o h => hless.outs hri h
            generalize bdF Nm2.a (numsF d) = ra at hbd hA
            generalize bdF Nm2.n (numsF d) = rn at hbd hN
            generalize bdF Nm2.a (numsF (knN1 d mm)) = ua at hbx hA
            generalize bdF Nm2.n (numsF (knN1 d mm)) = un at hbx hN
            obtain ⟨ra1, ra2⟩ := ra
            obtain ⟨rn1, rn2⟩ := rn
            obtain ⟨ua1, ua2⟩ := ua
            obtain ⟨un1, un2⟩ := un
            dsimp only at hA hN
            refine RelP.g (ok1 dvRd fun d => fewF d = true) (x := d) ⟨_, rfl, dvRd.grow hg2 hdv, hfw⟩ (Grow.refl _) (fun v G3 h3 hq => W.mk ?_)
            have hg3 := hg2.trans h3
            have hd3 := hq
            obtain ⟨_, _, _, _, _, _, rfl, hq⟩ := hq
            obtain ⟨xx0, yy0, zz0, rfl, _, _⟩ := id hq.a0
            obtain ⟨xx1, yy1, zz1, rfl, _, _⟩ := id hq.a1
            obtain ⟨xx2, yy2, zz2, rfl, _, _⟩ := id hq.n0
            obtain ⟨xx3, yy3, zz3, rfl, _, _⟩ := id hq.n1
            obtain ⟨xx4, yy4, zz4, rfl, _, _⟩ := id hq.ps
            obtain ⟨xx5, yy5, zz5, rfl, _, _⟩ := id hq.qs
            (conv => whnf)
            refine ScaP.g (ok1 dvRd rul) (x := d) ⟨_, rfl, hd3, hr⟩ (fun v hv => W.mk ?_)
            rw [hbd] at hv
            subst hv
            (conv => whnf)
            refine RelP.g (ok1 dvRd fun d => fewF d = true) (x := d) ⟨_, rfl, dvRd.grow hg3 hdv, hfw⟩ (Grow.refl _) (fun v G4 h4 hq => W.mk ?_)
            have hg4 := hg3.trans h4
            have hd4 := hq
            obtain ⟨_, _, _, _, _, _, rfl, hq⟩ := hq
            obtain ⟨xx0, yy0, zz0, rfl, _, _⟩ := id hq.a0
            obtain ⟨xx1, yy1, zz1, rfl, _, _⟩ := id hq.a1
            obtain ⟨xx2, yy2, zz2, rfl, _, _⟩ := id hq.n0
            obtain ⟨xx3, yy3, zz3, rfl, _, _⟩ := id hq.n1
            obtain ⟨xx4, yy4, zz4, rfl, _, _⟩ := id hq.ps
            obtain ⟨xx5, yy5, zz5, rfl, _, _⟩ := id hq.qs
            (conv => whnf)
            refine RelP.g (ok1 dvRd rul) (x := d) ⟨_, rfl, hd4, hr⟩ (Grow.refl _) (fun v G5 h5 hq => W.mk ?_)
            have hg5 := hg4.trans h5
            obtain ⟨w, rfl, al, nl, cl, rfl, hL, hln⟩ := hq
            rw [if_pos hop] at hL
            rw [hop]
            have hLl := hL.len
            (conv => whnf)
            refine ScaP.g (ok1 dvRd rul) (x := (knN1 d mm)) ⟨_, rfl, dvRd.grow (h3.trans (h4.trans h5)) hdx, hrx⟩ (fun v hv => W.mk ?_)
            rw [hbx] at hv
            subst hv
            (conv => whnf)
            repeat' (refine IteP.mk (fun _ => W.mk ?_) (fun _ => W.mk ?_) <;> first | (exfalso; omega) | (conv => whnf))
            refine RelP.g (ok1 dvRd rul) (x := (knN1 d mm)) ⟨_, rfl, dvRd.grow (h3.trans (h4.trans h5)) hdx, hrx⟩ (Grow.refl _) (fun v G6 h6 hq => W.mk ?_)
            have hg6 := hg5.trans h6
            obtain ⟨w, rfl, ao, no, co, rfl, hO, hon⟩ := hq
            rw [if_pos hox] at hO
            rw [hox]
            have hOl := hO.len
            (conv => whnf)
            repeat' (refine IteP.mk (fun _ => W.mk ?_) (fun _ => W.mk ?_) <;> first | (exfalso; omega) | (conv => whnf))
            have hL6 := SlR.grow (G := G5) (G' := G6) (fun _ _ h => h) hL h6
            clear hdx hless hrx
            generalize allowedF d = LD at houts hL6 hLl
            generalize hXL : allowedF _ = LX at houts hO hOl
            refine LoopP.of { α := Nat, fr := fun x => [(15, .v (.slice al nl cl)), (22, .v (.slice ao no co)), (24, .v (I x))], H := fun _ => [], ok := fun i _ => i ≤ no, m := fun x => no - x }
              0 (HeadP.of [] ⟨rfl, rfl, rfl, trivial⟩ trivial) (Nat.zero_le _) (fun _ => ⟨rfl, rfl⟩) (fun (i : Nat) G7 hg7 hx => W.mk ?_)
            dsimp only at hx
            dsimp only
            (conv => whnf)
            refine IteP.mk (fun hlt => W.mk ?_) (fun hge => W.mk ?_) <;> (conv => whnf)
            rotate_left
            · refine ScaP.g okU (x := ()) rfl (fun v hv => W.mk ?_)
              subst hv
              (conv => whnf)
              refine ForkP.mk (fun _ => W.mk ?_) (fun h => by cases h)
              (conv => whnf)
              exact FinP.mk rfl
            have hlt : i < LX.length := by omega
            have hco := (SlR.grow (G := G6) (G' := G7) (fun _ _ h => h) hO hg7).el hlt
            have hin := houts _ (List.getElem_mem hlt)
            generalize LX[i] = o at hco hin
            refine LoopP.of { α := Nat, fr := fun x => [(15, .v (.slice al nl cl)), (22, .v (.slice ao no co)), (24, .v (I i)), (25, .v (.bool ((LD.take x).contains o))), (26, .v (I x))], H := fun _ => [], ok := fun j _ => j ≤ nl, m := fun x => nl - x }
              0 (HeadP.of [] ⟨rfl, rfl, rfl, rfl, rfl, trivial⟩ trivial) (Nat.zero_le _) (fun _ => ⟨rfl, rfl⟩) (fun (j : Nat) G8 hg8 hx2 => W.mk ?_)
            dsimp only at hx2
            dsimp only
            have hco := CellsAt.grow hg8 hco
            generalize hb : (LD.take j).contains o = b
            (conv => whnf)
            refine IteP.mk (fun hlj => W.mk ?_) (fun hgj => W.mk ?_)
            · have hlj : j < LD.length := by omega
              have hcl := (SlR.grow (G := G6) (G' := G8) (fun _ _ h => h) hL6 (hg7.trans hg8)).el hlj
              have hq : (LD.take (j + 1)).contains o = (b || decide (LD[j] = o)) := by
                rw [con_succ hlj, hb]
              generalize LD[j] = e at hcl hq
              cases b
              · (conv => whnf)
                repeat' (first | (refine OblP.mk ?_ (W.mk ?_); (first | trivial | omega | (simp only [inR]; omega) | exact Nat.le_of_ble_eq_true (by rfl) | exact SlR.some (by assumption) (by omega)); (conv => whnf)) | (first | (refine RdP.at (by assumption) (by rfl) (W.mk ?_); (conv => whnf)) | (refine RdP.sub (by assumption) (by rfl) (W.mk ?_); (conv => whnf)) | (refine RdP.sub2 (by assumption) (by rfl) (W.mk ?_); (conv => whnf)) | (refine RdP.sub3 (by assumption) (by rfl) (W.mk ?_); (conv => whnf))))
                refine IteP.mk (fun h => W.mk ?_) (fun h => W.mk ?_) <;> (conv => whnf)
                · repeat' (first | (refine OblP.mk ?_ (W.mk ?_); (first | trivial | omega | (simp only [inR]; omega) | exact Nat.le_of_ble_eq_true (by rfl) | exact SlR.some (by assumption) (by omega)); (conv => whnf)) | (first | (refine RdP.at (by assumption) (by rfl) (W.mk ?_); (conv => whnf)) | (refine RdP.sub (by assumption) (by rfl) (W.mk ?_); (conv => whnf)) | (refine RdP.sub2 (by assumption) (by rfl) (W.mk ?_); (conv => whnf)) | (refine RdP.sub3 (by assumption) (by rfl) (W.mk ?_); (conv => whnf))))
                  refine RoundP.of (j + 1) (HeadP.of [] ⟨rfl, rfl, rfl, ?_, rfl, trivial⟩ trivial) (by show j + 1 ≤ nl; omega) (by simp only; omega)
                  rw [hq, decide_eq_true h]; rfl
                · repeat' (first | (refine OblP.mk ?_ (W.mk ?_); (first | trivial | omega | (simp only [inR]; omega) | exact Nat.le_of_ble_eq_true (by rfl) | exact SlR.some (by assumption) (by omega)); (conv => whnf)) | (first | (refine RdP.at (by assumption) (by rfl) (W.mk ?_); (conv => whnf)) | (refine RdP.sub (by assumption) (by rfl) (W.mk ?_); (conv => whnf)) | (refine RdP.sub2 (by assumption) (by rfl) (W.mk ?_); (conv => whnf)) | (refine RdP.sub3 (by assumption) (by rfl) (W.mk ?_); (conv => whnf))))
                  refine RoundP.of (j + 1) (HeadP.of [] ⟨rfl, rfl, rfl, ?_, rfl, trivial⟩ trivial) (by show j + 1 ≤ nl; omega) (by simp only; omega)
                  rw [hq, decide_eq_false h]; rfl
              · (conv => whnf)
                repeat' (first | (refine OblP.mk ?_ (W.mk ?_); (first | trivial | omega | (simp only [inR]; omega) | exact Nat.le_of_ble_eq_true (by rfl) | exact SlR.some (by assumption) (by omega)); (conv => whnf)) | (first | (refine RdP.at (by assumption) (by rfl) (W.mk ?_); (conv => whnf)) | (refine RdP.sub (by assumption) (by rfl) (W.mk ?_); (conv => whnf)) | (refine RdP.sub2 (by assumption) (by rfl) (W.mk ?_); (conv => whnf)) | (refine RdP.sub3 (by assumption) (by rfl) (W.mk ?_); (conv => whnf))))
                refine RoundP.of (j + 1) (HeadP.of [] ⟨rfl, rfl, rfl, ?_, rfl, trivial⟩ trivial) (by show j + 1 ≤ nl; omega) (by simp only; omega)
                rw [hq]; rfl
            · have : j = LD.length := by omega
              subst this
              rw [List.take_length] at hb
              have : b = true := by rw [← hb]; simpa using hin
              subst this
              (conv => whnf)
              repeat' (first | (refine OblP.mk ?_ (W.mk ?_); (first | trivial | omega | (simp only [inR]; omega) | exact Nat.le_of_ble_eq_true (by rfl) | exact SlR.some (by assumption) (by omega)); (conv => whnf)) | (first | (refine RdP.at (by assumption) (by rfl) (W.mk ?_); (conv => whnf)) | (refine RdP.sub (by assumption) (by rfl) (W.mk ?_); (conv => whnf)) | (refine RdP.sub2 (by assumption) (by rfl) (W.mk ?_); (conv => whnf)) | (refine RdP.sub3 (by assumption) (by rfl) (W.mk ?_); (conv => whnf))))
              refine RoundP.of (i + 1) (HeadP.of [] ⟨rfl, rfl, rfl, trivial⟩ trivial) (by show i + 1 ≤ no; omega) (by simp only; omega)
          · have hbx : bndV (knN1 d mm) = .tuple #[rngV (0, 0), rngV (0, 0), I 9] := by rw [bndV, if_neg (by rw [hox]; decide), hox]
            generalize bdF Nm2.a (numsF d) = ra at hbd
            generalize bdF Nm2.n (numsF d) = rn at hbd
            obtain ⟨ra1, ra2⟩ := ra
            obtain ⟨rn1, rn2⟩ := rn
            refine RelP.g (ok1 dvRd fun d => fewF d = true) (x := d) ⟨_, rfl, dvRd.grow hg2 hdv, hfw⟩ (Grow.refl _) (fun v G3 h3 hq => W.mk ?_)
            have hg3 := hg2.trans h3
            have hd3 := hq
            obtain ⟨_, _, _, _, _, _, rfl, hq⟩ := hq
            obtain ⟨xx0, yy0, zz0, rfl, _, _⟩ := id hq.a0
            obtain ⟨xx1, yy1, zz1, rfl, _, _⟩ := id hq.a1
            obtain ⟨xx2, yy2, zz2, rfl, _, _⟩ := id hq.n0
            obtain ⟨xx3, yy3, zz3, rfl, _, _⟩ := id hq.n1
            obtain ⟨xx4, yy4, zz4, rfl, _, _⟩ := id hq.ps
            obtain ⟨xx5, yy5, zz5, rfl, _, _⟩ := id hq.qs
            (conv => whnf)
            refine ScaP.g (ok1 dvRd rul) (x := d) ⟨_, rfl, hd3, hr⟩ (fun v hv => W.mk ?_)
            rw [hbd] at hv
            subst hv
            (conv => whnf)
            refine RelP.g (ok1 dvRd fun d => fewF d = true) (x := d) ⟨_, rfl, dvRd.grow hg3 hdv, hfw⟩ (Grow.refl _) (fun v G4 h4 hq => W.mk ?_)
            have hg4 := hg3.trans h4
            have hd4 := hq
            obtain ⟨_, _, _, _, _, _, rfl, hq⟩ := hq
            obtain ⟨xx0, yy0, zz0, rfl, _, _⟩ := id hq.a0
            obtain ⟨xx1, yy1, zz1, rfl, _, _⟩ := id hq.a1
            obtain ⟨xx2, yy2, zz2, rfl, _, _⟩ := id hq.n0
            obtain ⟨xx3, yy3, zz3, rfl, _, _⟩ := id hq.n1
            obtain ⟨xx4, yy4, zz4, rfl, _, _⟩ := id hq.ps
            obtain ⟨xx5, yy5, zz5, rfl, _, _⟩ := id hq.qs
            (conv => whnf)
            refine RelP.g (ok1 dvRd rul) (x := d) ⟨_, rfl, hd4, hr⟩ (Grow.refl _) (fun v G5 h5 hq => W.mk ?_)
            have hg5 := hg4.trans h5
            obtain ⟨w, rfl, al, nl, cl, rfl, hL, hln⟩ := hq
            rw [if_pos hop] at hL
            rw [hop]
            have hLl := hL.len
            (conv => whnf)
            refine ScaP.g (ok1 dvRd rul) (x := (knN1 d mm)) ⟨_, rfl, dvRd.grow (h3.trans (h4.trans h5)) hdx, hrx⟩ (fun v hv => W.mk ?_)
            rw [hbx] at hv
            subst hv
            (conv => whnf)
            repeat' (refine IteP.mk (fun _ => W.mk ?_) (fun _ => W.mk ?_) <;> first | (exfalso; omega) | (conv => whnf))
            refine ScaP.g (ok1 dvRd rul) (x := (knN1 d mm)) ⟨_, rfl, dvRd.grow (h3.trans (h4.trans h5)) hdx, hrx⟩ (fun v hv => W.mk ?_)
            rw [if_pos hless.right, if_pos hcl] at hv
            subst hv
            (conv => whnf)
            repeat' (refine IteP.mk (fun _ => W.mk ?_) (fun _ => W.mk ?_) <;> first | (exfalso; omega) | (conv => whnf))
            refine ScaP.g okU (x := ()) rfl (fun v hv => W.mk ?_)
            subst hv
            (conv => whnf)
            refine ForkP.mk (fun _ => W.mk ?_) (fun h => by cases h)
            (conv => whnf)
            exact FinP.mk rfl
end Go.Proofs.Ytgpfejgohclheaa

namespace Go.Proofs.Ytgpfejgohclheaa
open Go.Pal Go.ChangeShapes
theorem u8_val {G : Hp} {v : Value} (h : ∃ x, VR (cdInt .u8) false G v x) : ∃ n, u8Rd.R G v n ∧ 0 ≤ n ∧ n ≤ 255 := by
  obtain ⟨x, e, hr⟩ := h
  simp only [inR] at hr
  simp only [List.cons.injEq, and_true] at e
  exact ⟨x, e, hr.1, by omega⟩
theorem bool_val {G : Hp} {v : Value} (h : ∃ x, VR cdBool false G v x) : ∃ b, booRd.R G v b := by
  obtain ⟨x, e⟩ := h
  have e : [v] = [Value.bool x] := e
  exact ⟨x, (List.cons.inj e).1⟩
end Go.Proofs.Ytgpfejgohclheaa
