/- Layer 7: what is drawn: a division with no bounds on its lists; few. Layer 7, plain: the truths that fit are those that are gone through. Layer 7: the drawn values, opened. Layer 7, the seat .Z: chosen: a truth that fits, by a word. Layer 7, the seat .Z: ready. Layer 7, the seat .Z: the law TallyMore. Layer 7, the seat .Z: the law TallyTruth. Layer 7, the seat .Z: Truth, Fits of the reference. Layer 7, the seat .Z: the law TallyWitness. Layer 7, the seat .Z: the drawn words, opened. Layer 7, the seat .Z: the law TallyCounts. Layer 7, plain: who is in a pair does not count; at most as many count as there are members in no pair. Layer 7, the seat .Z: chosen, as an own row; the law TallyPairs. -/
import Derived.Test.YtgpfejgohclheaaGreatMJ
import Derived.Test.YtgpfejgohclheaaGreatMC
import Derived.Test.YtgpfejgohclheaaGreatRows
import Derived.Test.YtgpfejgohclheaaGreatME
namespace Go.Proofs.YtgpfejgohclheaaGreat
open Go.Pal
set_option maxRecDepth 100000
def SlU {α : Type} (e : El α) (G : Hp) (v : Value) (l : List α) : Prop := ∃ a n c, v = .slice a n c ∧ SlR e.k e.R G a n c l
theorem SlU.uniq {α : Type} {e : El α} {G : Hp} {v : Value} {x y : List α} (h : SlU e G v x) (h' : SlU e G v y) : x = y := by
  obtain ⟨a, n, c, rfl, h⟩ := h
  obtain ⟨a', n', c', e', h'⟩ := h'
  cases e'
  exact h.uniq (fun cs x y h1 h2 => e.inj (h1.symm.trans h2)) h'
theorem SlU.grow {α : Type} {e : El α} {G G' : Hp} {v : Value} {x : List α} (hg : Grow G G') (h : SlU e G v x) : SlU e G' v x := by
  obtain ⟨a, n, c, rfl, h⟩ := h
  exact ⟨a, n, c, rfl, SlR.grow (G := G) (G' := G') (fun _ _ h => h) h hg⟩
theorem SlU.v {α : Type} {e : El α} {G : Hp} {v : Value} {x : List α} (h : SlU e G v x) (hb : x.length ≤ 140737488355328) : SlV e G v x := by
  obtain ⟨a, n, c, rfl, h⟩ := h
  exact ⟨a, n, c, rfl, h, by rw [← h.len]; exact hb⟩
structure DuC (G : Hp) (w0 w1 w2 w3 w4 w5 : Value) (d : Dv) : Prop where
  a0 : SlU intE G w0 d.a0
  a1 : SlU intE G w1 d.a1
  n0 : SlU intE G w2 d.n0
  n1 : SlU intE G w3 d.n1
  ps : SlU prE G w4 d.ps
  qs : SlU prE G w5 d.qs
theorem DuC.grow {G G' : Hp} {w0 w1 w2 w3 w4 w5 : Value} {d : Dv} (hg : Grow G G') (h : DuC G w0 w1 w2 w3 w4 w5 d) : DuC G' w0 w1 w2 w3 w4 w5 d :=
  ⟨h.a0.grow hg, h.a1.grow hg, h.n0.grow hg, h.n1.grow hg, h.ps.grow hg, h.qs.grow hg⟩
def DuV (G : Hp) (v : Value) (d : Dv) : Prop := ∃ w0 w1 w2 w3 w4 w5, v = .agg #[I d.m, w0, w1, w2, w3, w4, w5, U d.rule, I d.need, I d.quorum, U d.tie] ∧ DuC G w0 w1 w2 w3 w4 w5 d
def duRd : Rd Dv := ⟨DuV, fun {_ _ x y} ⟨w0, w1, w2, w3, w4, w5, h, h1⟩ ⟨v0, v1, v2, v3, v4, v5, h', h1'⟩ => by
    subst h
    simp only [Value.agg.injEq, Array.mk.injEq, List.cons.injEq, Value.int.injEq, true_and, and_true] at h'
    obtain ⟨e1, e2, e3, e4, e5, e6, e7, e8, e9, e10, e11⟩ := h'
    subst e2; subst e3; subst e4; subst e5; subst e6; subst e7
    have k0 := h1.a0.uniq h1'.a0
    have k1 := h1.a1.uniq h1'.a1
    have k2 := h1.n0.uniq h1'.n0
    have k3 := h1.n1.uniq h1'.n1
    have k4 := h1.ps.uniq h1'.ps
    have k5 := h1.qs.uniq h1'.qs
    cases x; cases y; simp_all, fun hg ⟨w0, w1, w2, w3, w4, w5, h, h1⟩ => ⟨w0, w1, w2, w3, w4, w5, h, h1.grow hg⟩⟩
theorem DuC.v {G : Hp} {w0 w1 w2 w3 w4 w5 : Value} {d : Dv} (h : DuC G w0 w1 w2 w3 w4 w5 d) (hf : fewF d = true) : DvC G w0 w1 w2 w3 w4 w5 d := by
  simp only [fewF, Bool.and_eq_true, decide_eq_true_eq] at hf
  obtain ⟨⟨⟨⟨⟨h1, h2⟩, h3⟩, h4⟩, h5⟩, h6⟩ := hf
  exact ⟨h.a0.v (by omega), h.a1.v (by omega), h.n0.v (by omega), h.n1.v (by omega), h.ps.v (by omega), h.qs.v (by omega)⟩
theorem DuV.v {G : Hp} {v : Value} {d : Dv} (h : DuV G v d) (hf : fewF d = true) : DvV G v d := by
  obtain ⟨w0, w1, w2, w3, w4, w5, e, h⟩ := h
  exact ⟨w0, w1, w2, w3, w4, w5, e, h.v hf⟩
theorem few20u : Sound Tryz.prog 22 id (gsca (args1 duRd fun _ => True) fun d v => v = .bool (fewF d)) := by
  refine comp22.gsca (Tab.nil _) (fun args G s h => ?_) (fun args G d h => ?_)
  · obtain ⟨v, rfl, _⟩ := h; simp
  · obtain ⟨u, rfl, ⟨w0, w1, w2, w3, w4, w5, rfl, hd⟩, _⟩ := h
    obtain ⟨x0, y0, z0, rfl, la0⟩ := id hd.a0
    obtain ⟨x1, y1, z1, rfl, la1⟩ := id hd.a1
    obtain ⟨x2, y2, z2, rfl, ln0⟩ := id hd.n0
    obtain ⟨x3, y3, z3, rfl, ln1⟩ := id hd.n1
    obtain ⟨x4, y4, z4, rfl, lps⟩ := id hd.ps
    obtain ⟨x5, y5, z5, rfl, lqs⟩ := id hd.qs
    have e0 := la0.len
    have e1 := la1.len
    have e2 := ln0.len
    have e3 := ln1.len
    have e4 := lps.len
    have e5 := lqs.len
    (conv => whnf)
    refine LoopP.of { α := Nat, fr := fun x => [(1, .c (.ptr 0 0)), (3, .v (I x))], H := fun _ => [(0, .cells .anon (DVC d x0 x1 x2 x3 x4 x5 y0 z0 y1 z1 y2 z2 y3 z3 y4 z4 y5 z5) 27)], ok := fun i _ => i ≤ 2 ∧ (0 < i → y0 ≤ 45 ∧ y2 ≤ 45) ∧ (1 < i → y1 ≤ 45 ∧ y3 ≤ 45), m := fun x => 2 - x }
      0 (HeadP.of [] ⟨rfl, rfl, trivial⟩ ⟨rfl, trivial⟩) ⟨Nat.zero_le _, fun h => by omega, fun h => by omega⟩ (fun _ => ⟨rfl, rfl⟩) (fun (i : Nat) G' hG hx => W.mk ?_)
    obtain ⟨hi, hx1, hx2⟩ := hx
    dsimp only
    (conv => whnf)
    refine IteP.mk (fun hlt => W.mk ?_) (fun hge => W.mk ?_) <;> (conv => whnf)
    · rcases (by omega : i = 0 ∨ i = 1) with rfl | rfl
      · repeat' (refine OblP.mk ?_ (W.mk ?_); (first | trivial | omega | (simp only [inR]; omega) | exact Nat.le_of_ble_eq_true (by rfl) | exact SlR.some (by assumption) (by omega)); (conv => whnf))
        refine EqsP.mk ⟨[.val (.slice x0 y0 z0)], rfl, rfl, W.mk ?_⟩
        (conv => whnf)
        refine IteP.mk (fun h1 => W.mk ?_) (fun h1 => W.mk ?_) <;> (conv => whnf)
        · refine FinP.mk ?_
          refine congrArg Value.bool ?_
          have : decide (d.a0.length ≤ 45) = false := by simp only [decide_eq_false_iff_not]; omega
          simp [fewF, this]
        · repeat' (refine OblP.mk ?_ (W.mk ?_); (first | trivial | omega | (simp only [inR]; omega) | exact Nat.le_of_ble_eq_true (by rfl) | exact SlR.some (by assumption) (by omega)); (conv => whnf))
          refine EqsP.mk ⟨[.val (.slice x2 y2 z2)], rfl, rfl, W.mk ?_⟩
          (conv => whnf)
          refine IteP.mk (fun h2 => W.mk ?_) (fun h2 => W.mk ?_) <;> (conv => whnf)
          · refine FinP.mk ?_
            refine congrArg Value.bool ?_
            have : decide (d.n0.length ≤ 45) = false := by simp only [decide_eq_false_iff_not]; omega
            simp [fewF, this]
          · repeat' (refine OblP.mk ?_ (W.mk ?_); (first | trivial | omega | (simp only [inR]; omega) | exact Nat.le_of_ble_eq_true (by rfl) | exact SlR.some (by assumption) (by omega)); (conv => whnf))
            refine RoundP.of 1 (HeadP.of [] ⟨rfl, rfl, trivial⟩ ⟨rfl, trivial⟩) ⟨by show (1 : Nat) ≤ 2; omega, fun _ => by omega, fun h => by exact absurd h (by show ¬ (1 < 1); omega)⟩ (by simp only; omega)
      · repeat' (refine OblP.mk ?_ (W.mk ?_); (first | trivial | omega | (simp only [inR]; omega) | exact Nat.le_of_ble_eq_true (by rfl) | exact SlR.some (by assumption) (by omega)); (conv => whnf))
        refine EqsP.mk ⟨[.val (.slice x1 y1 z1)], rfl, rfl, W.mk ?_⟩
        (conv => whnf)
        have hx1 := hx1 (by omega)
        refine IteP.mk (fun h1 => W.mk ?_) (fun h1 => W.mk ?_) <;> (conv => whnf)
        · refine FinP.mk ?_
          refine congrArg Value.bool ?_
          have : decide (d.a1.length ≤ 45) = false := by simp only [decide_eq_false_iff_not]; omega
          simp [fewF, this]
        · repeat' (refine OblP.mk ?_ (W.mk ?_); (first | trivial | omega | (simp only [inR]; omega) | exact Nat.le_of_ble_eq_true (by rfl) | exact SlR.some (by assumption) (by omega)); (conv => whnf))
          refine EqsP.mk ⟨[.val (.slice x3 y3 z3)], rfl, rfl, W.mk ?_⟩
          (conv => whnf)
          refine IteP.mk (fun h2 => W.mk ?_) (fun h2 => W.mk ?_) <;> (conv => whnf)
          · refine FinP.mk ?_
            refine congrArg Value.bool ?_
            have : decide (d.n1.length ≤ 45) = false := by simp only [decide_eq_false_iff_not]; omega
            simp [fewF, this]
          · repeat' (refine OblP.mk ?_ (W.mk ?_); (first | trivial | omega | (simp only [inR]; omega) | exact Nat.le_of_ble_eq_true (by rfl) | exact SlR.some (by assumption) (by omega)); (conv => whnf))
            refine RoundP.of 2 (HeadP.of [] ⟨rfl, rfl, trivial⟩ ⟨rfl, trivial⟩) ⟨by show (2 : Nat) ≤ 2; omega, fun _ => hx1, fun _ => by omega⟩ (by simp only; omega)
    · have : i = 2 := by omega
      subst this
      have hx1 := hx1 (by omega)
      have hx2 := hx2 (by omega)
      have d0 : decide (d.a0.length ≤ 45) = true := by simp only [decide_eq_true_eq]; omega
      have d1 : decide (d.a1.length ≤ 45) = true := by simp only [decide_eq_true_eq]; omega
      have d2 : decide (d.n0.length ≤ 45) = true := by simp only [decide_eq_true_eq]; omega
      have d3 : decide (d.n1.length ≤ 45) = true := by simp only [decide_eq_true_eq]; omega
      refine IteP.mk (fun h1 => W.mk ?_) (fun h1 => W.mk ?_) <;> (conv => whnf)
      · have d4 : decide (d.ps.length ≤ 12) = true := by simp only [decide_eq_true_eq]; omega
        refine IteP.mk (fun h2 => W.mk ?_) (fun h2 => W.mk ?_) <;> (conv => whnf) <;> refine FinP.mk ?_ <;> refine congrArg Value.bool ?_
        · have d5 : decide (d.qs.length ≤ 12) = true := by simp only [decide_eq_true_eq]; omega
          simp [fewF, d0, d1, d2, d3, d4, d5]
        · have d5 : decide (d.qs.length ≤ 12) = false := by simp only [decide_eq_false_iff_not]; omega
          simp [fewF, d5]
      · refine FinP.mk ?_
        refine congrArg Value.bool ?_
        have d4 : decide (d.ps.length ≤ 12) = false := by simp only [decide_eq_false_iff_not]; omega
        simp [fewF, d4]
end Go.Proofs.YtgpfejgohclheaaGreat

namespace Go.Proofs.YtgpfejgohclheaaGreat
open Go.Pal
theorem trK_mem {may : Nat → List Int} : ∀ r m f g, (∀ j, m ≤ j → j < m + r → g j ∈ may j) → (∀ j, j < m ∨ m + r ≤ j → g j = f j) → g ∈ trK may r m f
  | 0, m, f, g, _, h2 => by
    simp only [trK, List.mem_singleton]
    funext j
    exact h2 j (by omega)
  | r + 1, m, f, g, h1, h2 => by
    simp only [trK, List.mem_flatMap]
    refine ⟨g m, h1 m (by omega) (by omega), trK_mem r (m + 1) _ g (fun j a b => h1 j (by omega) (by omega)) (fun j hj => ?_)⟩
    by_cases hjm : j = m
    · subst hjm; rw [if_pos rfl]
    · rw [if_neg hjm]; exact h2 j (by omega)
theorem tru_mem {d : Dv} (hr : rightD d = true) {g : Nat → Int} : g ∈ truL (lookF d) ↔ (∀ k, k < d.m.toNat → g k ∈ votesF d k) ∧ ∀ k, d.m.toNat ≤ k → g k = 0 := by
  have hm := right_m hr
  constructor
  · intro h
    obtain ⟨h1, h2⟩ := trK_spec _ _ _ _ h
    refine ⟨fun k hk => ?_, fun k hk => h2 k (.inr (by show 0 + d.m.toNat ≤ k; omega))⟩
    have := h1 k (Nat.zero_le _) (by show k < 0 + d.m.toNat; omega)
    rwa [mayL, may_look hm.2 hk] at this
  · rintro ⟨h1, h2⟩
    refine trK_mem _ _ _ _ (fun j _ hj => ?_) (fun j hj => ?_)
    · have hj : j < 0 + d.m.toNat := hj
      rw [mayL, may_look hm.2 (by omega)]
      exact h1 j (by omega)
    · have hj : j < 0 ∨ 0 + d.m.toNat ≤ j := hj
      exact h2 j (by omega)

/-- A truth, as it is counted. -/
def Fit (d : Dv) (t : List Int) : Prop := (t.length : Int) = d.m ∧ ∀ k, k < t.length → t.getD k 0 ∈ votesF d k
theorem Fit.of {d : Dv} {t : List Int} (hr : rightD d = true) : ofF d (trT fun k => t.getD k 0) = ofF d t :=
  ofF_ext hr fun k hk => by have := right_m hr; exact trT_get (by omega)
theorem Fit.vote {d : Dv} {t : List Int} (h : Fit d t) : ∀ v ∈ t, v = 0 ∨ v = 1 ∨ v = 2 := fun v hv => by
  obtain ⟨k, hk, rfl⟩ := List.getElem_of_mem hv
  have := h.2 k hk
  rw [List.getD_eq_getElem?_getD, List.getElem?_eq_getElem hk] at this
  exact votes_012 this
theorem fault_clash {d : Dv} (h : faultF d = 0) : rightD d = true ∧ clashF d < 0 := by
  refine ⟨fault_right h, ?_⟩
  rw [faultF, fault_right h] at h
  simpa using h
theorem Fit.cnt {d : Dv} {t : List Int} (hf : faultF d = 0) (h : Fit d t) : cntE d t = 0 := by
  obtain ⟨hr, hc⟩ := fault_clash hf
  have h1 : votF d t = true := by
    simp only [votF, Bool.and_eq_true, decide_eq_true_eq, List.all_eq_true]
    exact ⟨h.1, fun v hv => by have := h.vote v hv; omega⟩
  have h2 : fitsF d t = true := by
    simp only [fitsF, List.all_eq_true, List.mem_range]
    exact fun k hk => by rw [fitF]; simpa using h.2 k hk
  rw [cntE, if_pos hr, if_pos h1, if_neg (by omega), if_pos h2]
end Go.Proofs.YtgpfejgohclheaaGreat

namespace Go.Proofs.YtgpfejgohclheaaGreat
open Go.Pal Go.ChangeShapes

theorem SlR.map {α β : Type} {k : Nat} {R : Hp → List Value → α → Prop} {R' : Hp → List Value → β → Prop} {G : Hp} {a : Option Addr} {n c : Nat} {l : List α} (f : α → β) (hf : ∀ cs x, R G cs x → R' G cs (f x)) (h : SlR k R G a n c l) : SlR k R' G a n c (l.map f) :=
  ⟨by rw [List.length_map, h.len], h.cap, h.some, fun i hi => by
    obtain ⟨cs, h1, h2, h3⟩ := h.at_ i (by simpa using hi)
    exact ⟨cs, h1, h2, by rw [List.getElem_map]; exact hf _ _ h3⟩⟩
theorem udl3 : Tryz.prog.underlying 3 = some (.int .i64) := by kernel_rfl
theorem udl5 : Tryz.prog.underlying 5 = some (.int .u8) := by kernel_rfl
theorem o3 : Opens Tryz.prog 3 (cdInt .i64) := .int udl3
theorem o5 : Opens Tryz.prog 5 (cdInt .u8) := .int udl5
theorem o4 : Opens Tryz.prog 4 cdBool := .bool (by kernel_rfl)
theorem o22 : Opens Tryz.prog 22 (cdSl (cdInt .i64)) := .slice (e := 3) (by kernel_rfl) o3 (by decide)
abbrev cdTwo := cdPair (cdSl (cdInt .i64)) (cdPair (cdSl (cdInt .i64)) cdUnit)
theorem o23 : Opens Tryz.prog 23 cdTwo := .two (e := 22) (by kernel_rfl) o22 (by kernel_rfl)
abbrev cdPr := cdPair (cdInt .i64) (cdPair (cdInt .i64) cdUnit)
theorem o82 : Opens Tryz.prog 68 cdPr := .struct (fs := [(3, 0), (3, 1)]) (by kernel_rfl) (by kernel_rfl) (OpensF.cons o3 (OpensF.cons o3 OpensF.nil))
theorem o83 : Opens Tryz.prog 88 cdPr := .struct (fs := [(3, 0), (3, 1)]) (by kernel_rfl) (by kernel_rfl) (OpensF.cons o3 (OpensF.cons o3 OpensF.nil))
theorem o24 : Opens Tryz.prog 24 (cdSl cdPr) := .slice (e := 68) (by kernel_rfl) o82 (by decide)
theorem o25 : Opens Tryz.prog 25 (cdSl cdPr) := .slice (e := 88) (by kernel_rfl) o83 (by decide)
abbrev cdDv := cdPair (cdInt .i64) (cdPair cdTwo (cdPair cdTwo (cdPair (cdSl cdPr) (cdPair (cdSl cdPr) (cdPair (cdInt .u8) (cdPair (cdInt .i64) (cdPair (cdInt .i64) (cdPair (cdInt .u8) cdUnit))))))))
theorem o27 : Opens Tryz.prog 27 cdDv := .struct (fs := [(3, 0), (23, 1), (23, 3), (24, 5), (25, 6), (5, 7), (3, 8), (3, 9), (5, 10)]) (by kernel_rfl) (by kernel_rfl) (OpensF.cons o3 (OpensF.cons o23 (OpensF.cons o23 (OpensF.cons o24 (OpensF.cons o25 (OpensF.cons o5 (OpensF.cons o3 (OpensF.cons o3 (OpensF.cons o5 OpensF.nil)))))))))
theorem pr_cd {G : Hp} {cs : List Value} {x} (h : cdPr.R G cs x) : prE.R G cs (x.1, x.2.1) := by
  obtain ⟨_, _, rfl, ⟨rfl, _⟩, _, _, rfl, ⟨rfl, _⟩, rfl⟩ := h; rfl
theorem dv_val {G : Hp} {v : Value} (h : ∃ x, VR cdDv true G v x) : ∃ d, DuV G v d ∧ rul d := by
  obtain ⟨x, cs, rfl, _, _, e, ⟨rfl, _⟩, _, _, rfl, ⟨_, _, rfl, ⟨a0, n0, c0, rfl, h0, _⟩, _, _, rfl, ⟨a1, n1, c1, rfl, h1, _⟩, rfl⟩, _, _, rfl, ⟨_, _, rfl, ⟨a2, n2, c2, rfl, h2, _⟩, _, _, rfl, ⟨a3, n3, c3, rfl, h3, _⟩, rfl⟩,
    _, _, rfl, ⟨a4, n4, c4, rfl, h4, _⟩, _, _, rfl, ⟨a5, n5, c5, rfl, h5, _⟩, _, _, rfl, ⟨rfl, hr⟩, _, _, rfl, ⟨rfl, _⟩, _, _, rfl, ⟨rfl, _⟩, _, _, rfl, ⟨rfl, _⟩, rfl⟩ := h
  have hi : ∀ (cs : List Value) x, (cdInt .i64).R G cs x → intE.R G cs (id x) := fun _ _ h => h.1
  refine ⟨⟨x.1, x.2.1.1, x.2.1.2.1, x.2.2.1.1, x.2.2.1.2.1, x.2.2.2.1.map fun p => (p.1, p.2.1), x.2.2.2.2.1.map fun p => (p.1, p.2.1), x.2.2.2.2.2.1, x.2.2.2.2.2.2.1, x.2.2.2.2.2.2.2.1, x.2.2.2.2.2.2.2.2.1⟩,
    ⟨.slice a0 n0 c0, .slice a1 n1 c1, .slice a2 n2 c2, .slice a3 n3 c3, .slice a4 n4 c4, .slice a5 n5 c5, ?_, ⟨a0, n0, c0, rfl, ?_⟩, ⟨a1, n1, c1, rfl, ?_⟩, ⟨a2, n2, c2, rfl, ?_⟩, ⟨a3, n3, c3, rfl, ?_⟩, ⟨a4, n4, c4, rfl, SlR.map _ (fun _ _ h => pr_cd h) h4⟩, ⟨a5, n5, c5, rfl, SlR.map _ (fun _ _ h => pr_cd h) h5⟩⟩, ?_⟩
  · simp at e
    exact congrArg Value.agg (Array.toList_inj.1 e)
  · have := SlR.map id hi h0; rwa [List.map_id] at this
  · have := SlR.map id hi h1; rwa [List.map_id] at this
  · have := SlR.map id hi h2; rwa [List.map_id] at this
  · have := SlR.map id hi h3; rwa [List.map_id] at this
  · simp only [inR] at hr
    exact ⟨hr.1, by have := hr.2; show _ ≤ _; omega⟩
theorem ownK : ownKnob Tryz.checked.prog.godebug = none := by kernel_rfl
theorem laidK : laidOutB Tryz.checked.prog = true := by kernel_rfl
theorem boolK : Tryz.checked.prog.underlying 4 = some .bool := by kernel_rfl
abbrev dv0 : Value := .agg #[.int .i64 0, .slice none 0 0, .slice none 0 0, .slice none 0 0, .slice none 0 0, .slice none 0 0, .slice none 0 0, .int .u8 0, .int .i64 0, .int .i64 0, .int .u8 0]
end Go.Proofs.YtgpfejgohclheaaGreat

namespace Go.Proofs.YtgpfejgohclheaaGreat
open Go.Pal
set_option maxRecDepth 100000
abbrev U32 (n : Int) : Value := .int .u32 n
def u32Rd : Rd Int := ⟨fun _ v x => v = U32 x, fun {_ _ _ _} h h' => by rw [h] at h'; cases h'; rfl, fun {_ _ _ _} _ h => h⟩
/-- The votes that a member may have, below one. -/
def vK (d : Dv) (m : Int) (v : Nat) : List Int := ((List.range v).filter fun i => mayF d m (i : Nat)).map Int.ofNat
theorem vK_succ (d : Dv) (m : Int) (v : Nat) : vK d m (v + 1) = if mayF d m v then vK d m v ++ [(v : Int)] else vK d m v := by
  simp only [vK, List.range_succ, List.filter_append, List.map_append]
  cases h : mayF d m v <;> simp [List.filter, h]
theorem vK_votes (d : Dv) (m : Int) : vK d m 3 = votesF d m := by
  rw [vK_succ, vK_succ, vK_succ]
  have h0 : vK d m 0 = [] := rfl
  rw [h0, votesF]
  show (if mayF d m 2 = true then (if mayF d m 1 = true then (if mayF d m 0 = true then [] ++ [(0 : Int)] else []) ++ [(1 : Int)] else (if mayF d m 0 = true then [] ++ [(0 : Int)] else [])) ++ [(2 : Int)] else (if mayF d m 1 = true then (if mayF d m 0 = true then [] ++ [(0 : Int)] else []) ++ [(1 : Int)] else (if mayF d m 0 = true then [] ++ [(0 : Int)] else []))) = _
  cases mayF d m 0 <;> cases mayF d m 1 <;> cases mayF d m 2 <;> rfl
theorem vK_len (d : Dv) (m : Int) (v : Nat) : (vK d m v).length ≤ v := by
  simp only [vK, List.length_map]
  exact Nat.le_trans (List.length_filter_le _ _) (by simp)
/-- The votes that are chosen so far fit. -/
def ChK (d : Dv) (t : List Int) (m : Nat) : Prop := t.length = m ∧ ∀ k, k < m → t.getD k 0 ∈ votesF d k
theorem ChK.snoc {d : Dv} {t : List Int} {m : Nat} (h : ChK d t m) {x : Int} (hx : x ∈ votesF d m) : ChK d (t ++ [x]) (m + 1) := by
  obtain ⟨h1, h2⟩ := h
  refine ⟨by simp [h1], fun k hk => ?_⟩
  rw [List.getD_eq_getElem?_getD]
  by_cases hkm : k < m
  · rw [List.getElem?_append_left (by omega), ← List.getD_eq_getElem?_getD]
    exact h2 k hkm
  · have : k = t.length := by omega
    subst this
    rw [List.getElem?_concat_length]
    rw [h1]; exact hx
theorem votes_ne {d : Dv} (hf : faultF d = 0) {m : Nat} (hm : m < d.m.toNat) : votesF d m ≠ [] := by
  obtain ⟨hr, hc⟩ := fault_clash hf
  obtain ⟨g, hg⟩ := List.exists_mem_of_ne_nil _ (numbers_ne hf)
  have := ((tru_mem hr).1 hg).1 m hm
  intro h
  rw [h] at this
  cases this
def tabCh7 : Tab Tryz.prog := Tab.cons 54 _ may44 body54 (Tab.nil _)
end Go.Proofs.YtgpfejgohclheaaGreat

namespace Go.Proofs.YtgpfejgohclheaaGreat
open Go.Pal
set_option maxRecDepth 100000
def readyF (d : Dv) : Bool := fewF d && decide (openF d = 0)
def tabRdy : Tab Tryz.prog := Tab.cons 22 _ few20u body22 (Tab.cons 16 _ open17 body16 (Tab.nil _))
theorem ready30 : Sound Tryz.prog 30 id (gsca (args1 duRd fun _ => True) fun d v => v = .bool (readyF d)) := by
  refine comp30.gsca tabRdy (fun args G s h => ?_) (fun args G d h => ?_)
  · obtain ⟨v, rfl, _⟩ := h; simp
  · obtain ⟨u, rfl, ⟨w0, w1, w2, w3, w4, w5, rfl, hd⟩, _⟩ := h
    have hdv : DuV G _ d := ⟨_, _, _, _, _, _, rfl, hd⟩
    obtain ⟨x0, y0, z0, rfl, la0⟩ := id hd.a0
    obtain ⟨x1, y1, z1, rfl, la1⟩ := id hd.a1
    obtain ⟨x2, y2, z2, rfl, ln0⟩ := id hd.n0
    obtain ⟨x3, y3, z3, rfl, ln1⟩ := id hd.n1
    obtain ⟨x4, y4, z4, rfl, lps⟩ := id hd.ps
    obtain ⟨x5, y5, z5, rfl, lqs⟩ := id hd.qs
    (conv => whnf)
    refine ScaP.g (ok1 duRd fun _ => True) (x := d) ⟨_, rfl, hdv, trivial⟩ (fun v hv => W.mk ?_)
    subst hv
    (conv => whnf)
    refine ForkP.mk (fun hf => W.mk ?_) (fun hf => W.mk ?_) <;> (conv => whnf)
    · refine ScaP.g (ok1 dvRd fun _ => True) (x := d) ⟨_, rfl, hdv.v hf, trivial⟩ (fun v hv => W.mk ?_)
      subst hv
      (conv => whnf)
      repeat' (first | (refine IteP.mk (fun _ => W.mk ?_) (fun _ => W.mk ?_) <;> (conv => whnf)) | (refine FinP.mk ?_))
      all_goals (refine congrArg Value.bool ?_; simp [readyF, *])
    · refine FinP.mk ?_
      refine congrArg Value.bool ?_
      simp [readyF, hf]
end Go.Proofs.YtgpfejgohclheaaGreat

namespace Go.Proofs.YtgpfejgohclheaaGreat
open Go.Pal
set_option maxRecDepth 100000
theorem ready_fault {d : Dv} (h : readyF d = true) : fewF d = true ∧ openF d = 0 ∧ faultF d = 0 := by
  simp only [readyF, Bool.and_eq_true, decide_eq_true_eq] at h
  exact ⟨h.1, h.2, (open_fault h.2).1⟩
end Go.Proofs.YtgpfejgohclheaaGreat

namespace Go.Proofs.YtgpfejgohclheaaGreat
open Go.Pal
set_option maxRecDepth 100000
set_option maxHeartbeats 1000000
end Go.Proofs.YtgpfejgohclheaaGreat

namespace Go.Proofs.YtgpfejgohclheaaGreat
open Go.Pal
set_option maxRecDepth 100000
end Go.Proofs.YtgpfejgohclheaaGreat

namespace Go.Proofs.YtgpfejgohclheaaGreat
open Go.Pal
set_option maxRecDepth 100000
set_option maxHeartbeats 1000000
end Go.Proofs.YtgpfejgohclheaaGreat

namespace Go.Proofs.YtgpfejgohclheaaGreat
open Go.Pal Go.ChangeShapes
theorem o57 : Opens Tryz.prog 57 (cdInt .u32) := .int (by kernel_rfl)
theorem u32_val {G : Hp} {v : Value} (h : ∃ x, VR (cdInt .u32) false G v x) : ∃ n, u32Rd.R G v n ∧ 0 ≤ n ∧ n ≤ 4294967295 := by
  obtain ⟨x, e, hr⟩ := h
  simp only [inR] at hr
  simp only [List.cons.injEq, and_true] at e
  exact ⟨x, e, hr.1, by omega⟩
theorem u8_val {G : Hp} {v : Value} (h : ∃ x, VR (cdInt .u8) false G v x) : ∃ n, u8Rd.R G v n ∧ 0 ≤ n ∧ n ≤ 255 := by
  obtain ⟨x, e, hr⟩ := h
  simp only [inR] at hr
  simp only [List.cons.injEq, and_true] at e
  exact ⟨x, e, hr.1, by omega⟩
end Go.Proofs.YtgpfejgohclheaaGreat

namespace Go.Proofs.YtgpfejgohclheaaGreat
open Go.Pal
set_option maxRecDepth 100000
theorem eq49 (a b c d : Int) : ∀ w, ((POp.bin .eql 49).sem [.agg #[I a, I b], .agg #[I c, I d]]).run Tryz.prog w = .ok (.bool (decide (a = c ∧ b = d))) w :=
  pur_eq2 (e := 3) (by kernel_rfl) (by kernel_rfl) (by kernel_rfl) und3 (by kernel_rfl) (by kernel_rfl) (by kernel_rfl) a b c d
set_option maxHeartbeats 1000000
end Go.Proofs.YtgpfejgohclheaaGreat

namespace Go.Proofs.YtgpfejgohclheaaGreat
open Go.Pal
theorem ofK_pair {d : Dv} {t t' : List Int} : ∀ i : Nat, (∀ k : Nat, k < i → pairedF d k = false → t.getD k 0 = t'.getD k 0) → ofK d t i = ofK d t' i
  | 0, _ => rfl
  | i + 1, h => by
    have ih := ofK_pair i fun k hk => h k (by omega)
    simp only [ofK]
    rw [ih]
    cases hp : pairedF d i
    · rw [h i (by omega) hp]
    · rfl
theorem ofP_pair {d : Dv} {t t' : List Int} (hr : rightD d = true) (h : ∀ k : Nat, k < d.m.toNat → pairedF d k = false → t.getD k 0 = t'.getD k 0) : ∀ k, k ≤ d.qs.length → ofP d t k = ofP d t' k
  | 0, _ => ofK_pair _ h
  | k + 1, hk => by
    have hlt : k < d.qs.length := by omega
    have hgd : d.qs.getD k (0, 0) = d.qs[k] := by simp [hlt]
    obtain ⟨⟨r1, r2⟩, r3, r4⟩ := right_qs hr hlt
    have ih := ofP_pair hr h k (by omega)
    simp only [ofP]
    rw [ih, hgd]
    have e1 := h (d.qs[k]).1.toNat (by omega)
    have e2 := h (d.qs[k]).2.toNat (by omega)
    rw [show ((d.qs[k].1.toNat : Nat) : Int) = d.qs[k].1 by omega] at e1
    rw [show ((d.qs[k].2.toNat : Nat) : Int) = d.qs[k].2 by omega] at e2
    by_cases h1 : pairedF d d.qs[k].1 = false
    · by_cases h2 : pairedF d d.qs[k].2 = false
      · rw [prxF, prxF, e1 h1, e2 h2]
      · simp [prxF, h2]
    · simp [prxF, h1]
/-- Votes of those who are in pairs do not count. -/
theorem ofF_pair {d : Dv} {t t' : List Int} (hr : rightD d = true) (h : ∀ k : Nat, k < d.m.toNat → pairedF d k = false → t.getD k 0 = t'.getD k 0) : ofF d t = ofF d t' := by
  have := ofP_pair hr h d.qs.length (Nat.le_refl _)
  rw [ofF, ofF, this]

/-- Who is in no pair, and votes. -/
def unp (d : Dv) (k : Nat) : Bool := !pairedF d k
def C3.two (c : C3) : Int := c.c1 + c.c2
theorem C3.two_add (c : C3) (v : Int) : (c.add v).two ≤ c.two + (if v = 0 then 0 else 1) := by
  unfold C3.add C3.two
  split
  · simp
  · split <;> simp only <;> omega
theorem ofK_two (d : Dv) (t : List Int) : ∀ i, (ofK d t i).two ≤ ((List.range i).filter fun k => unp d k && !decide (t.getD k 0 = 0)).length
  | 0 => by simp [ofK, C3.two]
  | i + 1 => by
    have ih := ofK_two d t i
    rw [List.range_succ, List.filter_append, List.length_append]
    simp only [ofK]
    split
    · omega
    · rename_i hp
      have := (ofK d t i).two_add (t.getD i 0)
      have hu : unp d i = true := by simp [unp, hp]
      by_cases h0 : t.getD i 0 = 0
      · rw [if_pos h0] at this; omega
      · rw [if_neg h0] at this
        have : ((List.filter (fun k => unp d k && !decide (t.getD k 0 = 0)) [i]).length : Int) = 1 := by
          rw [List.filter_cons_of_pos (by simp only [hu, Bool.true_and, h0, decide_false, Bool.not_false])]; rfl
        omega
theorem ofP_two (d : Dv) (t : List Int) : ∀ k, k ≤ d.qs.length → (ofP d t k).two ≤ (ofK d t d.m.toNat).two + ((d.qs.take k).filter (prxF d t)).length
  | 0, _ => by simp [ofP]
  | k + 1, hk => by
    have hlt : k < d.qs.length := by omega
    have hgd : d.qs.getD k (0, 0) = d.qs[k] := by simp [hlt]
    have ih := ofP_two d t k (by omega)
    rw [take_snoc hlt, List.filter_append, List.length_append]
    simp only [ofP]
    rw [hgd]
    split
    · rename_i hp
      have := (ofP d t k).two_add (t.getD d.qs[k].1.toNat 0)
      have h1 : ((List.filter (prxF d t) [d.qs[k]]).length : Int) = 1 := by
        rw [List.filter_cons_of_pos hp]; rfl
      split at this <;> omega
    · omega
theorem right_pairs {d : Dv} (h : rightD d = true) : pairsF d = true ∧ proxF d = true := by
  simp only [rightD, Bool.and_eq_true] at h
  exact ⟨h.1.2, h.2⟩
theorem qs_nodup {d : Dv} (h : rightD d = true) : d.qs.Pairwise fun p q => p.2 ≠ q.2 := by
  have hp := (right_pairs h).2
  rw [List.pairwise_iff_getElem]
  intro i j hi hj hij he
  simp only [proxF, List.all_eq_true, List.mem_range] at hp
  have := hp i hi
  simp only [proxAt, Bool.and_eq_true, List.all_eq_true, List.mem_range] at this
  have := this.2 j hj
  have e1 : d.qs.getD i (0, 0) = d.qs[i] := by simp [hi]
  have e2 : d.qs.getD j (0, 0) = d.qs[j] := by simp [hj]
  rw [proxC, e1, e2] at this
  simp [he, show ¬ j = i by omega] at this
theorem ps_nodup {d : Dv} (h : rightD d = true) : (d.ps.flatMap fun p => [p.1, p.2]).Nodup := by
  have hp := (right_pairs h).1
  simp only [pairsF, List.all_eq_true, List.mem_range] at hp
  rw [List.Nodup, List.pairwise_flatMap]
  constructor
  · intro p hp'
    obtain ⟨i, hi, rfl⟩ := List.getElem_of_mem hp'
    have := hp i hi
    have e1 : d.ps.getD i (0, 0) = d.ps[i] := by simp [hi]
    simp only [pairAt, Bool.and_eq_true, pOk, e1] at this
    have := this.1.2
    simp at this
    simp [this]
  · rw [List.pairwise_iff_getElem]
    intro i j hi hj hij x hx y hy
    have := hp j hj
    simp only [pairAt, Bool.and_eq_true, List.all_eq_true, List.mem_range] at this
    have := this.2 i hij
    have e1 : d.ps.getD i (0, 0) = d.ps[i] := by simp [hi]
    have e2 : d.ps.getD j (0, 0) = d.ps[j] := by simp [hj]
    rw [e1, e2, crossF] at this
    simp only [Bool.not_eq_true', Bool.or_eq_false_iff, decide_eq_false_iff_not] at this
    obtain ⟨⟨⟨q1, q2⟩, q3⟩, q4⟩ := this
    simp only [List.mem_cons, List.not_mem_nil, or_false] at hx hy
    rcases hx with rfl | rfl <;> rcases hy with rfl | rfl <;> (intro e; first | exact q1 e.symm | exact q2 e.symm | exact q3 e.symm | exact q4 e.symm)
theorem paired_iff {d : Dv} {x : Int} : pairedF d x = true ↔ x ∈ d.ps.flatMap fun p => [p.1, p.2] := by
  simp only [pairedF, List.any_eq_true, prF, Bool.or_eq_true, decide_eq_true_eq, List.mem_flatMap, List.mem_cons, List.not_mem_nil, or_false]
  constructor
  · rintro ⟨p, h1, h2⟩; exact ⟨p, h1, h2.imp Eq.symm Eq.symm⟩
  · rintro ⟨p, h1, h2⟩; exact ⟨p, h1, h2.imp Eq.symm Eq.symm⟩
theorem ofNat_nodup {l : List Nat} (h : l.Nodup) : (l.map Int.ofNat).Nodup := by
  rw [List.Nodup, List.pairwise_map]
  exact h.imp fun h e => h (Int.ofNat.inj e)
theorem unp_len {d : Dv} (h : rightD d = true) : (((List.range d.m.toNat).filter (unp d)).length : Int) + 2 * d.ps.length ≤ d.m := by
  have hm := right_m h
  have key := len_sub ((((List.range d.m.toNat).filter (unp d)).map Int.ofNat) ++ d.ps.flatMap fun p => [p.1, p.2]) ((List.range d.m.toNat).map Int.ofNat) ?_ ?_
  · have e : (d.ps.flatMap fun p => [p.1, p.2]).length = 2 * d.ps.length := by
      generalize d.ps = l
      induction l with
      | nil => rfl
      | cons a r ih => simp only [List.flatMap_cons, List.length_append, ih, List.length_cons, List.length_nil]; omega
    simp only [List.length_append, List.length_map, List.length_range, e] at key
    omega
  · rw [List.nodup_append]
    refine ⟨ofNat_nodup (List.nodup_range.filter _), ps_nodup h, fun a ha b hb e => ?_⟩
    subst e
    obtain ⟨k, hk, rfl⟩ := List.mem_map.1 ha
    have := (List.mem_filter.1 hk).2
    rw [unp, show pairedF d ((k : Nat) : Int) = true from paired_iff.2 hb] at this
    cases this
  · intro x hx
    rcases List.mem_append.1 hx with hx | hx
    · obtain ⟨k, hk, rfl⟩ := List.mem_map.1 hx
      exact List.mem_map.2 ⟨k, (List.mem_filter.1 hk).1, rfl⟩
    · obtain ⟨p, hp, hx⟩ := List.mem_flatMap.1 hx
      obtain ⟨i, hi, rfl⟩ := List.getElem_of_mem hp
      have := right_ps h hi
      simp only [List.mem_cons, List.not_mem_nil, or_false] at hx
      refine List.mem_map.2 ⟨x.toNat, List.mem_range.2 ?_, ?_⟩
      · rcases hx with rfl | rfl <;> omega
      · show ((x.toNat : Nat) : Int) = x
        rcases hx with rfl | rfl <;> omega
theorem prx_len {d : Dv} (t : List Int) (h : rightD d = true) : (d.qs.filter (prxF d t)).length ≤ ((List.range d.m.toNat).filter fun k => unp d k && decide (t.getD k 0 = 0)).length := by
  have key := len_sub ((d.qs.filter (prxF d t)).map (·.2)) (((List.range d.m.toNat).filter fun k => unp d k && decide (t.getD k 0 = 0)).map Int.ofNat) ?_ ?_
  · simpa using key
  · rw [List.Nodup, List.pairwise_map]
    exact (qs_nodup h).filter _
  · intro x hx
    obtain ⟨p, hp, rfl⟩ := List.mem_map.1 hx
    obtain ⟨hp, hq⟩ := List.mem_filter.1 hp
    obtain ⟨i, hi, rfl⟩ := List.getElem_of_mem hp
    have := right_qs h hi
    simp only [prxF, Bool.and_eq_true, decide_eq_true_eq] at hq
    refine List.mem_map.2 ⟨d.qs[i].2.toNat, List.mem_filter.2 ⟨List.mem_range.2 (by omega), ?_⟩, by show ((d.qs[i].2.toNat : Nat) : Int) = _; omega⟩
    simp only [Bool.and_eq_true, decide_eq_true_eq, unp]
    refine ⟨?_, hq.1.1⟩
    rw [show ((d.qs[i].2.toNat : Nat) : Int) = d.qs[i].2 by omega]
    exact hq.1.2
theorem filter_two (l : List Nat) (p q : Nat → Bool) : ((l.filter fun k => p k && !q k).length : Int) + (l.filter fun k => p k && q k).length = (l.filter p).length := by
  induction l with
  | nil => rfl
  | cons a r ih =>
    simp only [List.filter_cons]
    cases p a <;> cases q a <;> simp only [Bool.and_true, Bool.and_false, Bool.true_and, Bool.false_and, Bool.not_true, Bool.not_false, if_true, List.length_cons, Bool.false_eq_true, if_false] <;> omega
/-- At most as many count as there are members in no pair. -/
theorem ofF_bound {d : Dv} (t : List Int) (h : rightD d = true) : (ofF d t).a + (ofF d t).n ≤ d.m - 2 * d.ps.length := by
  have h1 := ofK_two d t d.m.toNat
  have h2 := ofP_two d t d.qs.length (Nat.le_refl _)
  rw [List.take_length] at h2
  have h3 := prx_len t h
  have h4 := unp_len h
  have h5 := filter_two (List.range d.m.toNat) (unp d) (fun k => decide (t.getD k 0 = 0))
  have h6 : (ofP d t d.qs.length).two = (ofF d t).a + (ofF d t).n := rfl
  omega
end Go.Proofs.YtgpfejgohclheaaGreat

namespace Go.Proofs.YtgpfejgohclheaaGreat
open Go.Pal
set_option maxRecDepth 100000
abbrev args4 {α β γ δ : Type} (A : Rd α) (B : Rd β) (C : Rd γ) (D : Rd δ) (q : α → β → γ → δ → Prop) : GRel (α × β × γ × δ) := fun args G x => ∃ u v w z, args = [u, v, w, z] ∧ A.R G u x.1 ∧ B.R G v x.2.1 ∧ C.R G w x.2.2.1 ∧ D.R G z x.2.2.2 ∧ q x.1 x.2.1 x.2.2.1 x.2.2.2
theorem chosen31o : Sound Tryz.prog 31 id (gown 5 1 (args2 dvRd u32Rd fun d w => faultF d = 0 ∧ 0 ≤ w ∧ w ≤ 4294967295) fun x n vs => ∃ t, Fit x.1 t ∧ Row u8E t n vs) := by
  refine comp31.gown tabCh7 (ok2 _ _ _) (fun args G s h => ?_) (fun args G x h => ?_)
  · obtain ⟨v, w, rfl, _⟩ := h; simp
  · obtain ⟨d, w0⟩ := x
    obtain ⟨u, v, rfl, ⟨w0', w1, w2, w3, w4, w5, rfl, hd⟩, rfl, hf, hw0, hw1⟩ := h
    dsimp only at hd hf hw0 hw1
    have hm := fault_m hf
    have hd0 := hd
    obtain ⟨x0, y0, z0, rfl, la0, ya0⟩ := id hd.a0
    obtain ⟨x1, y1, z1, rfl, la1, ya1⟩ := id hd.a1
    obtain ⟨x2, y2, z2, rfl, ln0, yn0⟩ := id hd.n0
    obtain ⟨x3, y3, z3, rfl, ln1, yn1⟩ := id hd.n1
    obtain ⟨x4, y4, z4, rfl, lps, yps⟩ := id hd.ps
    obtain ⟨x5, y5, z5, rfl, lqs, yqs⟩ := id hd.qs
    dsimp only
    (conv => whnf)
    refine LoopP.of { α := Nat × Int × Nat × List Int × List Value, fr := fun x => [(1, .v (U32 x.2.1)), (2, .c (.ptr 0 0)), (5, .c (.row 2 x.2.2.1)), (6, .v (I x.1))], H := fun x => [(0, .cells .anon (DVC d x0 x1 x2 x3 x4 x5 y0 z0 y1 z1 y2 z2 y3 z3 y4 z4 y5 z5) 27), (2, .row none x.2.2.1 x.2.2.2.2 5 1)], ok := fun x _ => x.1 ≤ d.m.toNat ∧ (0 ≤ x.2.1 ∧ x.2.1 ≤ 4294967295) ∧ Row u8E x.2.2.2.1 x.2.2.1 x.2.2.2.2 ∧ ChK d x.2.2.2.1 x.1, m := fun x => d.m.toNat - x.1 }
      (0, w0, 0, [], []) (HeadP.of [(2, none)] ⟨rfl, rfl, rfl, rfl, trivial⟩ ⟨rfl, rfl, trivial⟩) ⟨Nat.zero_le _, ⟨hw0, hw1⟩, Row.nil, rfl, fun k hk => by omega⟩ (fun _ => ⟨rfl, rfl⟩) (fun x G' hG hx => W.mk ?_)
    obtain ⟨i, w, n, t, vs⟩ := x
    obtain ⟨hi, ⟨hwa, hwb⟩, hr, hch⟩ := hx
    dsimp only at hi hwa hwb hr hch
    have hd1 := hd0.grow hG
    have hnl := hr.n
    have htl := hch.1
    dsimp only
    (conv => whnf)
    refine IteP.mk (fun hlt => W.mk ?_) (fun hge => W.mk ?_) <;> (conv => whnf)
    · have hlt : i < d.m.toNat := by omega
      refine LoopP.of { α := Nat × Nat × List Value, fr := fun x => [(1, .v (U32 w)), (2, .c (.ptr 0 0)), (5, .c (.row 2 n)), (6, .v (I i)), (7, .c (.row 8 x.2.1)), (8, .v (I x.1))], H := fun x => [(0, .cells .anon (DVC d x0 x1 x2 x3 x4 x5 y0 z0 y1 z1 y2 z2 y3 z3 y4 z4 y5 z5) 27), (2, .row none n vs 5 1), (8, .row none x.2.1 x.2.2 5 1)], ok := fun x _ => x.1 ≤ 3 ∧ Row u8E (vK d i x.1) x.2.1 x.2.2, m := fun x => 3 - x.1 }
        (0, 0, []) (HeadP.of [(8, none)] ⟨rfl, rfl, rfl, rfl, rfl, rfl, trivial⟩ ⟨rfl, rfl, rfl, trivial⟩) ⟨Nat.zero_le _, Row.nil⟩ (fun _ => ⟨rfl, rfl⟩) (fun x G2 hG2 hx => W.mk ?_)
      obtain ⟨v, mn, ms⟩ := x
      obtain ⟨hv3, hmr⟩ := hx
      dsimp only at hv3 hmr
      have hd2 := hd1.grow hG2
      have hml := hmr.n
      have hvl := vK_len d i v
      dsimp only
      (conv => whnf)
      refine IteP.mk (fun hv => W.mk ?_) (fun hv => W.mk ?_) <;> (conv => whnf)
      · repeat' (refine OblP.mk ?_ (W.mk ?_); (first | trivial | omega | (simp only [inR]; omega) | exact Nat.le_of_ble_eq_true (by rfl) | exact SlR.some (by assumption) (by omega)); (conv => whnf))
        refine ScaP.g (ok3 dvRd intRd u8Rd fun _ _ _ => True) (x := (d, (i : Int), (v : Int))) ⟨_, _, _, rfl, ⟨_, _, _, _, _, _, rfl, hd2⟩, rfl, rfl, trivial⟩ (fun v hv => W.mk ?_)
        subst hv
        dsimp only
        (conv => whnf)
        refine ForkP.mk (fun hq => W.mk ?_) (fun hq => W.mk ?_) <;> (conv => whnf)
        · repeat' (refine OblP.mk ?_ (W.mk ?_); (first | trivial | omega | (simp only [inR]; omega) | exact Nat.le_of_ble_eq_true (by rfl) | exact SlR.some (by assumption) (by omega)); (conv => whnf))
          refine RoundP.of (v + 1, mn + 1, ms ++ [U v]) (HeadP.of [(8, some 21)] ⟨rfl, rfl, rfl, rfl, rfl, rfl, trivial⟩ ⟨rfl, rfl, rfl, trivial⟩) ⟨by show v + 1 ≤ 3; omega, ?_⟩ (by simp only; omega)
          rw [vK_succ, if_pos hq]
          exact hmr.snoc (v : Int)
        · repeat' (refine OblP.mk ?_ (W.mk ?_); (first | trivial | omega | (simp only [inR]; omega) | exact Nat.le_of_ble_eq_true (by rfl) | exact SlR.some (by assumption) (by omega)); (conv => whnf))
          refine RoundP.of (v + 1, mn, ms) (HeadP.of [] ⟨rfl, rfl, rfl, rfl, rfl, rfl, trivial⟩ ⟨rfl, rfl, rfl, trivial⟩) ⟨by show v + 1 ≤ 3; omega, ?_⟩ (by simp only; omega)
          rw [vK_succ, if_neg (by rw [hq]; simp)]
          exact hmr
      · have : v = 3 := by omega
        subst this
        rw [vK_votes] at hmr
        have hmne := List.length_pos_iff.2 (votes_ne hf hlt)
        have hmn : mn = (votesF d i).length := hmr.n
        have hw3 := Int.emod_nonneg w (show (mn : Int) ≠ 0 by omega)
        have hw4 := Int.emod_lt_of_pos w (show 0 < (mn : Int) by omega)
        refine IteP.mk (fun h1 => W.mk ?_) (fun h1 => W.mk ?_) <;> (conv => whnf)
        · repeat' (refine OblP.mk ?_ (W.mk ?_); (first | trivial | omega | (simp only [inR]; omega) | exact Nat.le_of_ble_eq_true (by rfl) | exact SlR.some (by assumption) (by omega)); (conv => whnf))
          have hk : (w % (mn : Int)).toNat < (votesF d i).length := by omega
          refine EqP.row hmr (i := (w % (mn : Int)).toNat) hk (W.mk ?_)
          (conv => whnf)
          repeat' (refine OblP.mk ?_ (W.mk ?_); (first | trivial | omega | (simp only [inR]; omega) | exact Nat.le_of_ble_eq_true (by rfl) | exact SlR.some (by assumption) (by omega)); (conv => whnf))
          refine RoundP.of (i + 1, (w / 3), n + 1, t ++ [(votesF d i)[(w % (mn : Int)).toNat]'hk], vs ++ [U ((votesF d i)[(w % (mn : Int)).toNat]'hk)]) (HeadP.of [(2, some 45)] ⟨rfl, rfl, rfl, rfl, trivial⟩ ⟨rfl, rfl, trivial⟩) ⟨hlt, ⟨by simp only; omega, by simp only; omega⟩, hr.snoc _, hch.snoc (List.getElem_mem _)⟩ (by simp only; omega)
        · repeat' (refine OblP.mk ?_ (W.mk ?_); (first | trivial | omega | (simp only [inR]; omega) | exact Nat.le_of_ble_eq_true (by rfl) | exact SlR.some (by assumption) (by omega)); (conv => whnf))
          have hk : 0 < (votesF d i).length := by omega
          refine EqP.row hmr (i := 0) hk (W.mk ?_)
          (conv => whnf)
          repeat' (refine OblP.mk ?_ (W.mk ?_); (first | trivial | omega | (simp only [inR]; omega) | exact Nat.le_of_ble_eq_true (by rfl) | exact SlR.some (by assumption) (by omega)); (conv => whnf))
          refine RoundP.of (i + 1, w, n + 1, t ++ [(votesF d i)[0]'hk], vs ++ [U ((votesF d i)[0]'hk)]) (HeadP.of [(2, some 45)] ⟨rfl, rfl, rfl, rfl, trivial⟩ ⟨rfl, rfl, trivial⟩) ⟨hlt, ⟨by simp only; omega, by simp only; omega⟩, hr.snoc _, hch.snoc (List.getElem_mem _)⟩ (by simp only; omega)
    · have : i = d.m.toNat := by omega
      subst this
      exact OwnFin.mk ⟨rfl, rfl, rfl, t, ⟨by omega, fun k hk => hch.2 k (by omega)⟩, hr⟩

theorem den_set_eqR {P : Program} {hid : Nat} {Gr G : Hp} {K : SV → List (Nat × Option OB) → Hp → Prop} {h n : Nat} {s : Option Value} {vs vs' : List Value} {t : TypeId} {k : Nat} {sv : SV} (e : vs = vs') (hk : Res.den P hid Gr G K (.set h (.row s n vs' t k) sv)) : Res.den P hid Gr G K (.set h (.row s n vs t k) sv) := by
  subst e; exact hk
theorem Fit.set {d : Dv} {t t' : List Int} {i : Nat} (h : Fit d t) (h' : Fit d t') (hi : i < t.length) (hi' : i < t'.length) : Fit d (t.set i t'[i]) := by
  refine ⟨by rw [List.length_set]; exact h.1, fun k hk => ?_⟩
  rw [List.length_set] at hk
  rw [getD_set _ _ _ _ hi]
  split
  · rename_i e
    subst e
    have := h'.2 k hi'
    simpa [hi'] using this
  · exact h.2 k hk
theorem ofF_swap {d : Dv} {t : List Int} {i j : Nat} {x y : Int} (hr : rightD d = true) (hi : i < t.length) (hj : j < t.length) (pi : pairedF d i = true) (pj : pairedF d j = true) : ofF d ((t.set i x).set j y) = ofF d t := by
  refine ofF_pair hr fun k hk hp => ?_
  rw [getD_set _ _ _ _ (by rw [List.length_set]; exact hj), getD_set _ _ _ _ hi]
  rw [if_neg (fun e => by subst e; rw [pj] at hp; cases hp), if_neg (fun e => by subst e; rw [pi] at hp; cases hp)]
def tabPr : Tab Tryz.prog := Tab.cons 30 _ ready30 body30 (Tab.cons 11 _ wakes10 body11 (Tab.cons 13 _ div12 body13 (Tab.cons 31 _ chosen31o body31 (Tab.cons 23 _ count34 body23 (Tab.nil _)))))
set_option maxHeartbeats 1000000
theorem law7z : Sound Tryz.prog 7 id (gsca (args4 duRd u32Rd u32Rd u8Rd fun d w u x => rul d ∧ (0 ≤ w ∧ w ≤ 4294967295) ∧ (0 ≤ u ∧ u ≤ 4294967295) ∧ 0 ≤ x ∧ x ≤ 255) fun _ v => v = .bool true) := by
  refine comp7.gsca tabPr (fun args G s h => ?_) (fun args G x h => ?_)
  · obtain ⟨v, w, u, u', rfl, _⟩ := h; simp
  · obtain ⟨d, p, q, wh⟩ := x
    obtain ⟨u, v, w, w', rfl, ⟨w0, w1, w2, w3, w4, w5, rfl, hd⟩, rfl, rfl, rfl, hr, ⟨hp0, hp1⟩, ⟨hq0, hq1⟩, hx0, hx1⟩ := h
    dsimp only at hd hr hp0 hp1 hq0 hq1 hx0 hx1
    have hdv : DuV G _ d := ⟨_, _, _, _, _, _, rfl, hd⟩
    obtain ⟨x0, y0, z0, rfl, la0⟩ := id hd.a0
    obtain ⟨x1, y1, z1, rfl, la1⟩ := id hd.a1
    obtain ⟨x2, y2, z2, rfl, ln0⟩ := id hd.n0
    obtain ⟨x3, y3, z3, rfl, ln1⟩ := id hd.n1
    obtain ⟨x4, y4, z4, rfl, lps⟩ := id hd.ps
    obtain ⟨x5, y5, z5, rfl, lqs⟩ := id hd.qs
    (try dsimp only)
    (conv => whnf)
    refine ScaP.g (ok1 duRd fun _ => True) (x := d) ⟨_, rfl, hdv, trivial⟩ (fun v hv => W.mk ?_)
    subst hv
    (conv => whnf)
    refine ForkP.mk (fun hfw => W.mk ?_) (fun hfw => W.mk ?_) <;> (conv => whnf)
    rotate_left
    · refine ScaP.g okU (x := ()) rfl (fun v hv => W.mk ?_)
      subst hv
      (conv => whnf)
      refine ForkP.mk (fun _ => W.mk ?_) (fun h => by cases h)
      (conv => whnf)
      exact FinP.mk rfl
    obtain ⟨hfw, hop, hfa⟩ := ready_fault hfw
    have hdv := hdv.v hfw
    have hg0 := Grow.refl G
    refine OwnP.g (ok2 dvRd u32Rd fun d w => faultF d = 0 ∧ 0 ≤ w ∧ w ≤ 4294967295) (x := (d, p)) ⟨_, _, rfl, hdv, rfl, hfa, hp0, hp1⟩ (Grow.refl _) (fun n vs G1 h1 hq => W.mk ?_)
    obtain ⟨t, ht, htr⟩ := hq
    have hg1 := hg0.trans h1
    dsimp only at ht htr
    (conv => whnf)
    refine OwnP.g (ok2 dvRd u32Rd fun d w => faultF d = 0 ∧ 0 ≤ w ∧ w ≤ 4294967295) (x := (d, q)) ⟨_, _, rfl, dvRd.grow hg1 hdv, rfl, hfa, hq0, hq1⟩ (Grow.refl _) (fun m us G2 h2 hq => W.mk ?_)
    obtain ⟨t', ht', htr'⟩ := hq
    have hg2 := hg1.trans h2
    dsimp only at ht' htr'
    (conv => whnf)
    refine RelP.g (ok1 dvRd fun d => fewF d = true) (x := d) ⟨_, rfl, dvRd.grow hg2 hdv, hfw⟩ (Grow.refl _) (fun v G3 h3 hq => W.mk ?_)
    have hg3 := hg2.trans h3
    have hd3 := hq
    obtain ⟨_, _, _, _, _, _, rfl, hq⟩ := hq
    obtain ⟨xx0, yy0, zz0, rfl, _, _⟩ := id hq.a0
    obtain ⟨xx1, yy1, zz1, rfl, _, _⟩ := id hq.a1
    obtain ⟨xx2, yy2, zz2, rfl, _, _⟩ := id hq.n0
    obtain ⟨xx3, yy3, zz3, rfl, _, _⟩ := id hq.n1
    obtain ⟨xx4, yy4, zz4, rfl, _, _⟩ := id hq.ps
    obtain ⟨xx5, yy5, zz5, rfl, _, _⟩ := id hq.qs
    (conv => whnf)
    have htn := htr.n
    have htm := htr'.n
    have hm40 := right_m (fault_right hfa)
    have htl := ht.1
    have htl' := ht'.1
    repeat' (refine OblP.mk ?_ (W.mk ?_); (first | trivial | omega | (simp only [inR]; omega) | exact Nat.le_of_ble_eq_true (by rfl) | exact SlR.some (by assumption) (by omega)); (conv => whnf))
    refine PubP.mk (fun a4 c4 G4 h4 hp => W.mk ?_)
    have hg4 := hg3.trans h4
    have hp4 : SlV u8E G4 (.slice a4 (0 + n) c4) t := by rw [Nat.zero_add]; exact htr.pub (by simpa using hp) (by omega)
    (conv => whnf)
    refine ScaP.g (ok2 dvRd (slRd u8E) fun d _ => rul d) (x := (d, t)) ⟨_, _, rfl, dvRd.grow h4 hd3, hp4, hr⟩ (fun v hv => W.mk ?_)
    have hv := hv.trans (cntV_ok (ht.cnt hfa))
    subst hv
    have hb := ofF_le t (fault_right hfa)
    have hb2 := ofF_bound t (fault_right hfa)
    have hpl := lps.len
    dsimp only
    generalize hnm : ofF d t = nm at hb hb2 ⊢
    (conv => whnf)
    repeat' (first | (refine IteP.mk (fun _ => W.mk ?_) (fun _ => W.mk ?_) <;> first | (exfalso; omega) | (conv => whnf)) | (refine OblP.mk ?_ (W.mk ?_); (first | trivial | omega | (simp only [inR]; omega) | exact Nat.le_of_ble_eq_true (by rfl) | exact SlR.some (by assumption) (by omega)); (conv => whnf)))
    · refine ScaP.g okU (x := ()) rfl (fun v hv => W.mk ?_)
      subst hv
      (conv => whnf)
      refine ForkP.mk (fun _ => W.mk ?_) (fun h => by cases h)
      (conv => whnf)
      exact FinP.mk rfl
    have hpne : (y4 : Int) ≠ 0 := by omega
    have hk0 := Int.emod_nonneg wh hpne
    have hk1 := Int.emod_lt_of_pos wh (show 0 < (y4 : Int) by omega)
    have hk : (wh % (y4 : Int)).toNat < d.ps.length := by omega
    have hel := (SlR.grow (G := G) (G' := G4) (fun _ _ h => h) lps hg4).el hk
    have hpk := right_ps (fault_right hfa) hk
    have hmem := List.getElem_mem hk
    generalize (wh % (y4 : Int)).toNat = k at hk hel hpk hmem ⊢
    repeat' (first | (refine IteP.mk (fun _ => W.mk ?_) (fun _ => W.mk ?_) <;> first | (exfalso; omega) | (conv => whnf)) | (refine OblP.mk ?_ (W.mk ?_); (first | trivial | omega | (simp only [inR]; omega) | exact Nat.le_of_ble_eq_true (by rfl) | exact SlR.some (by assumption) (by omega)); (conv => whnf)))
    generalize d.ps[k] = pq at hel hpk hmem
    obtain ⟨pa, pb⟩ := pq
    dsimp only at hpk
    repeat' (first | (first | (refine RdP.at (by assumption) (by rfl) (W.mk ?_); (conv => whnf)) | (refine RdP.sub (by assumption) (by rfl) (W.mk ?_); (conv => whnf)) | (refine RdP.sub2 (by assumption) (by rfl) (W.mk ?_); (conv => whnf)) | (refine RdP.sub3 (by assumption) (by rfl) (W.mk ?_); (conv => whnf))) | (refine IteP.mk (fun _ => W.mk ?_) (fun _ => W.mk ?_) <;> first | (exfalso; omega) | (conv => whnf)) | (refine OblP.mk ?_ (W.mk ?_); (first | trivial | omega | (simp only [inR]; omega) | exact Nat.le_of_ble_eq_true (by rfl) | exact SlR.some (by assumption) (by omega)); (conv => whnf)))
    have hvs : vs = t.map U := by rw [htr.vs, mapU_flat]
    have hus : us = t'.map U := by rw [htr'.vs, mapU_flat]
    subst hvs
    subst hus
    refine DrawP.mk monoT_nil rfl (W.mk ?_)
    have h1 : pa.toNat < t.length := by omega
    have h2 : pb.toNat < t.length := by omega
    have h3 : pa.toNat < t'.length := by omega
    have h4 : pb.toNat < t'.length := by omega
    (conv => whnf)
    repeat' (first | (first | (refine RdP.at (by assumption) (by rfl) (W.mk ?_); (conv => whnf)) | (refine RdP.sub (by assumption) (by rfl) (W.mk ?_); (conv => whnf)) | (refine RdP.sub2 (by assumption) (by rfl) (W.mk ?_); (conv => whnf)) | (refine RdP.sub3 (by assumption) (by rfl) (W.mk ?_); (conv => whnf))) | (refine IteP.mk (fun _ => W.mk ?_) (fun _ => W.mk ?_) <;> first | (exfalso; omega) | (conv => whnf)) | (refine OblP.mk ?_ (W.mk ?_); (first | trivial | omega | (simp only [inR]; omega) | exact Nat.le_of_ble_eq_true (by rfl) | exact SlR.some (by assumption) (by omega)); (conv => whnf)))
    refine EqP.mk ⟨_, mapU_at h3 (Nat.mul_one _), rfl, W.mk ?_⟩
    (conv => whnf)
    repeat' (first | (first | (refine RdP.at (by assumption) (by rfl) (W.mk ?_); (conv => whnf)) | (refine RdP.sub (by assumption) (by rfl) (W.mk ?_); (conv => whnf)) | (refine RdP.sub2 (by assumption) (by rfl) (W.mk ?_); (conv => whnf)) | (refine RdP.sub3 (by assumption) (by rfl) (W.mk ?_); (conv => whnf))) | (refine IteP.mk (fun _ => W.mk ?_) (fun _ => W.mk ?_) <;> first | (exfalso; omega) | (conv => whnf)) | (refine OblP.mk ?_ (W.mk ?_); (first | trivial | omega | (simp only [inR]; omega) | exact Nat.le_of_ble_eq_true (by rfl) | exact SlR.some (by assumption) (by omega)); (conv => whnf)))
    refine EqP.mk ⟨_, mapU_at h4 (Nat.mul_one _), rfl, W.mk ?_⟩
    (conv => whnf)
    repeat' (first | (first | (refine RdP.at (by assumption) (by rfl) (W.mk ?_); (conv => whnf)) | (refine RdP.sub (by assumption) (by rfl) (W.mk ?_); (conv => whnf)) | (refine RdP.sub2 (by assumption) (by rfl) (W.mk ?_); (conv => whnf)) | (refine RdP.sub3 (by assumption) (by rfl) (W.mk ?_); (conv => whnf))) | (refine IteP.mk (fun _ => W.mk ?_) (fun _ => W.mk ?_) <;> first | (exfalso; omega) | (conv => whnf)) | (refine OblP.mk ?_ (W.mk ?_); (first | trivial | omega | (simp only [inR]; omega) | exact Nat.le_of_ble_eq_true (by rfl) | exact SlR.some (by assumption) (by omega)); (conv => whnf)))
    refine OblP.mk (by rw [List.length_map]; dsimp only; omega) (W.mk ?_)
    refine den_set_eqR (mapU_set (l := t) (i := pa.toNat) (off := pa.toNat * 1) t'[pa.toNat] h1 (Nat.mul_one _)) ?_
    (conv => whnf)
    repeat' (first | (first | (refine RdP.at (by assumption) (by rfl) (W.mk ?_); (conv => whnf)) | (refine RdP.sub (by assumption) (by rfl) (W.mk ?_); (conv => whnf)) | (refine RdP.sub2 (by assumption) (by rfl) (W.mk ?_); (conv => whnf)) | (refine RdP.sub3 (by assumption) (by rfl) (W.mk ?_); (conv => whnf))) | (refine IteP.mk (fun _ => W.mk ?_) (fun _ => W.mk ?_) <;> first | (exfalso; omega) | (conv => whnf)) | (refine OblP.mk ?_ (W.mk ?_); (first | trivial | omega | (simp only [inR]; omega) | exact Nat.le_of_ble_eq_true (by rfl) | exact SlR.some (by assumption) (by omega)); (conv => whnf)))
    refine OblP.mk (by rw [List.length_map, List.length_set]; dsimp only; omega) (W.mk ?_)
    refine den_set_eqR (mapU_set (l := t.set pa.toNat t'[pa.toNat]) (i := pb.toNat) (off := pb.toNat * 1) t'[pb.toNat] (by rw [List.length_set]; exact h2) (Nat.mul_one _)) ?_
    have hf2 : Fit d ((t.set pa.toNat t'[pa.toNat]).set pb.toNat t'[pb.toNat]) := (ht.set ht' h1 h3).set ht' (by rw [List.length_set]; exact h2) h4
    have hpm : ∀ x : Int, x = pa ∨ x = pb → pairedF d x = true := fun x hx => paired_iff.2 (List.mem_flatMap.2 ⟨_, hmem, by simpa using hx⟩)
    have hsw : ofF d ((t.set pa.toNat t'[pa.toNat]).set pb.toNat t'[pb.toNat]) = nm := by
      rw [← hnm]
      exact ofF_swap (fault_right hfa) h1 h2 (hpm _ (.inl (by omega))) (hpm _ (.inr (by omega)))
    have hl2 : ((t.set pa.toNat t'[pa.toNat]).set pb.toNat t'[pb.toNat]).length = n := by rw [List.length_set, List.length_set]; omega
    generalize (t.set pa.toNat t'[pa.toNat]).set pb.toNat t'[pb.toNat] = t2 at hf2 hsw hl2
    have hrow2 : Row u8E t2 n (t2.map U) := ⟨hl2.symm, mapU_flat _⟩
    (conv => whnf)
    refine RelP.g (ok1 dvRd fun d => fewF d = true) (x := d) ⟨_, rfl, dvRd.grow hg4 hdv, hfw⟩ (Grow.refl _) (fun v G5 h5 hq => W.mk ?_)
    have hg5 := hg4.trans h5
    have hd5 := hq
    obtain ⟨_, _, _, _, _, _, rfl, hq⟩ := hq
    obtain ⟨xx0, yy0, zz0, rfl, _, _⟩ := id hq.a0
    obtain ⟨xx1, yy1, zz1, rfl, _, _⟩ := id hq.a1
    obtain ⟨xx2, yy2, zz2, rfl, _, _⟩ := id hq.n0
    obtain ⟨xx3, yy3, zz3, rfl, _, _⟩ := id hq.n1
    obtain ⟨xx4, yy4, zz4, rfl, _, _⟩ := id hq.ps
    obtain ⟨xx5, yy5, zz5, rfl, _, _⟩ := id hq.qs
    (conv => whnf)
    refine PubP.mk (fun a6 c6 G6 h6 hp => W.mk ?_)
    have hp6 : SlV u8E G6 (.slice a6 n c6) t2 := hrow2.pub hp (by omega)
    (conv => whnf)
    refine ScaP.g (ok2 dvRd (slRd u8E) fun d _ => rul d) (x := (d, t2)) ⟨_, _, rfl, dvRd.grow h6 hd5, hp6, hr⟩ (fun v hv => W.mk ?_)
    have hv := hv.trans (cntV_ok (hf2.cnt hfa))
    rw [hsw] at hv
    subst hv
    dsimp only
    (conv => whnf)
    repeat' (first | (refine IteP.mk (fun _ => W.mk ?_) (fun _ => W.mk ?_) <;> first | (exfalso; omega) | (conv => whnf)) | (refine OblP.mk ?_ (W.mk ?_); (first | trivial | omega | (simp only [inR]; omega) | exact Nat.le_of_ble_eq_true (by rfl) | exact SlR.some (by assumption) (by omega)); (conv => whnf)))
    refine PurP.of (.bool true) (fun w => by rw [eq49]; simp) (W.mk ?_)
    (conv => whnf)
    repeat' (first | (refine IteP.mk (fun _ => W.mk ?_) (fun _ => W.mk ?_) <;> first | (exfalso; omega) | (conv => whnf)) | (refine OblP.mk ?_ (W.mk ?_); (first | trivial | omega | (simp only [inR]; omega) | exact Nat.le_of_ble_eq_true (by rfl) | exact SlR.some (by assumption) (by omega)); (conv => whnf)))
    refine ForkP.mk (fun _ => W.mk ?_) (fun h => by cases h)
    (conv => whnf)
    refine ScaP.g okU (x := ()) rfl (fun v hv => W.mk ?_)
    subst hv
    (conv => whnf)
    refine ForkP.mk (fun _ => W.mk ?_) (fun h => by cases h)
    (conv => whnf)
    exact FinP.mk rfl
end Go.Proofs.YtgpfejgohclheaaGreat
