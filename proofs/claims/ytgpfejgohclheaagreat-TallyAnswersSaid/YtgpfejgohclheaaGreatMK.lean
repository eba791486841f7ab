/- Layer 7: what is drawn: a division with no bounds on its lists; few. Layer 7, plain: the truths that fit are those that are gone through. Layer 7: the drawn values, opened. Layer 7, the seat .Z: chosen: a truth that fits, by a word. Layer 7, the seat .Z: ready. Layer 7, the seat .Z: the law TallyMore. Layer 7, the seat .Z: the law TallyTruth. Layer 7, the seat .Z: Truth, Fits of the reference. Layer 7, the seat .Z: the law TallyWitness. Layer 7, the seat .Z: the drawn words, opened. Layer 7, the seat .Z: the law TallyCounts. Layer 7, plain: who is in a pair does not count; at most as many count as there are members in no pair. Layer 7, the seat .Z: chosen, as an own row; the law TallyPairs. Layer 7, plain: the answers of the members of a question, as they are told to the tellers. Layer 7: told: a list of a teller in which a member is, or is not. Layer 7, the seat .Z: the law TallyAnswers. -/
import Derived.Test.YtgpfejgohclheaaGreatMJ
import Derived.Test.YtgpfejgohclheaaGreatMC
import Derived.Test.YtgpfejgohclheaaGreatRows
import Derived.Test.YtgpfejgohclheaaGreatME
namespace Go.Proofs.YtgpfejgohclheaaGreat
open Go.Pal
set_option maxRecDepth 100000
def SlU {α : Type} (e : El α) (G : Hp) (v : Value) (l : List α) : Prop := ∃ a n c, v = .slice a n c ∧ SlR e.k e.R G a n c l
theorem SlU.uniq {α : Type} {e : El α} {G : Hp} {v : Value} {x y : List α} (h : SlU e G v x) (h' : SlU e G v y) : x = y := by
  obtain ⟨a, n, c, rfl, h⟩ := h
  obtain ⟨a', n', c', e', h'⟩ := h'
  cases e'
  exact h.uniq (fun cs x y h1 h2 => e.inj (h1.symm.trans h2)) h'
theorem SlU.grow {α : Type} {e : El α} {G G' : Hp} {v : Value} {x : List α} (hg : Grow G G') (h : SlU e G v x) : SlU e G' v x := by
  obtain ⟨a, n, c, rfl, h⟩ := h
  exact ⟨a, n, c, rfl, SlR.grow (G := G) (G' := G') (fun _ _ h => h) h hg⟩
theorem SlU.v {α : Type} {e : El α} {G : Hp} {v : Value} {x : List α} (h : SlU e G v x) (hb : x.length ≤ 140737488355328) : SlV e G v x := by
  obtain ⟨a, n, c, rfl, h⟩ := h
  exact ⟨a, n, c, rfl, h, by rw [← h.len]; exact hb⟩
structure DuC (G : Hp) (w0 w1 w2 w3 w4 w5 : Value) (d : Dv) : Prop where
  a0 : SlU intE G w0 d.a0
  a1 : SlU intE G w1 d.a1
  n0 : SlU intE G w2 d.n0
  n1 : SlU intE G w3 d.n1
  ps : SlU prE G w4 d.ps
  qs : SlU prE G w5 d.qs
theorem DuC.grow {G G' : Hp} {w0 w1 w2 w3 w4 w5 : Value} {d : Dv} (hg : Grow G G') (h : DuC G w0 w1 w2 w3 w4 w5 d) : DuC G' w0 w1 w2 w3 w4 w5 d :=
  ⟨h.a0.grow hg, h.a1.grow hg, h.n0.grow hg, h.n1.grow hg, h.ps.grow hg, h.qs.grow hg⟩
def DuV (G : Hp) (v : Value) (d : Dv) : Prop := ∃ w0 w1 w2 w3 w4 w5, v = .agg #[I d.m, w0, w1, w2, w3, w4, w5, U d.rule, I d.need, I d.quorum, U d.tie] ∧ DuC G w0 w1 w2 w3 w4 w5 d
def duRd : Rd Dv := ⟨DuV, fun {_ _ x y} ⟨w0, w1, w2, w3, w4, w5, h, h1⟩ ⟨v0, v1, v2, v3, v4, v5, h', h1'⟩ => by
    subst h
    simp only [Value.agg.injEq, Array.mk.injEq, List.cons.injEq, Value.int.injEq, true_and, and_true] at h'
    obtain ⟨e1, e2, e3, e4, e5, e6, e7, e8, e9, e10, e11⟩ := h'
    subst e2; subst e3; subst e4; subst e5; subst e6; subst e7
    have k0 := h1.a0.uniq h1'.a0
    have k1 := h1.a1.uniq h1'.a1
    have k2 := h1.n0.uniq h1'.n0
    have k3 := h1.n1.uniq h1'.n1
    have k4 := h1.ps.uniq h1'.ps
    have k5 := h1.qs.uniq h1'.qs
    cases x; cases y; simp_all, fun hg ⟨w0, w1, w2, w3, w4, w5, h, h1⟩ => ⟨w0, w1, w2, w3, w4, w5, h, h1.grow hg⟩⟩
theorem DuC.v {G : Hp} {w0 w1 w2 w3 w4 w5 : Value} {d : Dv} (h : DuC G w0 w1 w2 w3 w4 w5 d) (hf : fewF d = true) : DvC G w0 w1 w2 w3 w4 w5 d := by
  simp only [fewF, Bool.and_eq_true, decide_eq_true_eq] at hf
  obtain ⟨⟨⟨⟨⟨h1, h2⟩, h3⟩, h4⟩, h5⟩, h6⟩ := hf
  exact ⟨h.a0.v (by omega), h.a1.v (by omega), h.n0.v (by omega), h.n1.v (by omega), h.ps.v (by omega), h.qs.v (by omega)⟩
theorem DuV.v {G : Hp} {v : Value} {d : Dv} (h : DuV G v d) (hf : fewF d = true) : DvV G v d := by
  obtain ⟨w0, w1, w2, w3, w4, w5, e, h⟩ := h
  exact ⟨w0, w1, w2, w3, w4, w5, e, h.v hf⟩
theorem few20u : Sound Tryz.prog 22 id (gsca (args1 duRd fun _ => True) fun d v => v = .bool (fewF d)) := by
  refine comp22.gsca (Tab.nil _) (fun args G s h => ?_) (fun args G d h => ?_)
  · obtain ⟨v, rfl, _⟩ := h; simp
  · obtain ⟨u, rfl, ⟨w0, w1, w2, w3, w4, w5, rfl, hd⟩, _⟩ := h
    obtain ⟨x0, y0, z0, rfl, la0⟩ := id hd.a0
    obtain ⟨x1, y1, z1, rfl, la1⟩ := id hd.a1
    obtain ⟨x2, y2, z2, rfl, ln0⟩ := id hd.n0
    obtain ⟨x3, y3, z3, rfl, ln1⟩ := id hd.n1
    obtain ⟨x4, y4, z4, rfl, lps⟩ := id hd.ps
    obtain ⟨x5, y5, z5, rfl, lqs⟩ := id hd.qs
    have e0 := la0.len
    have e1 := la1.len
    have e2 := ln0.len
    have e3 := ln1.len
    have e4 := lps.len
    have e5 := lqs.len
    (conv => whnf)
    refine LoopP.of { α := Nat, fr := fun x => [(1, .c (.ptr 0 0)), (3, .v (I x))], H := fun _ => [(0, .cells .anon (DVC d x0 x1 x2 x3 x4 x5 y0 z0 y1 z1 y2 z2 y3 z3 y4 z4 y5 z5) 27)], ok := fun i _ => i ≤ 2 ∧ (0 < i → y0 ≤ 45 ∧ y2 ≤ 45) ∧ (1 < i → y1 ≤ 45 ∧ y3 ≤ 45), m := fun x => 2 - x }
      0 (HeadP.of [] ⟨rfl, rfl, trivial⟩ ⟨rfl, trivial⟩) ⟨Nat.zero_le _, fun h => by omega, fun h => by omega⟩ (fun _ => ⟨rfl, rfl⟩) (fun (i : Nat) G' hG hx => W.mk ?_)
    obtain ⟨hi, hx1, hx2⟩ := hx
    dsimp only
    (conv => whnf)
    refine IteP.mk (fun hlt => W.mk ?_) (fun hge => W.mk ?_) <;> (conv => whnf)
    · rcases (by omega : i = 0 ∨ i = 1) with rfl | rfl
      · repeat' (refine OblP.mk ?_ (W.mk ?_); (first | trivial | omega | (simp only [inR]; omega) | exact Nat.le_of_ble_eq_true (by rfl) | exact SlR.some (by assumption) (by omega)); (conv => whnf))
        refine EqsP.mk ⟨[.val (.slice x0 y0 z0)], rfl, rfl, W.mk ?_⟩
        (conv => whnf)
        refine IteP.mk (fun h1 => W.mk ?_) (fun h1 => W.mk ?_) <;> (conv => whnf)
        · refine FinP.mk ?_
          refine congrArg Value.bool ?_
          have : decide (d.a0.length ≤ 45) = false := by simp only [decide_eq_false_iff_not]; omega
          simp [fewF, this]
        · repeat' (refine OblP.mk ?_ (W.mk ?_); (first | trivial | omega | (simp only [inR]; omega) | exact Nat.le_of_ble_eq_true (by rfl) | exact SlR.some (by assumption) (by omega)); (conv => whnf))
          refine EqsP.mk ⟨[.val (.slice x2 y2 z2)], rfl, rfl, W.mk ?_⟩
          (conv => whnf)
          refine IteP.mk (fun h2 => W.mk ?_) (fun h2 => W.mk ?_) <;> (conv => whnf)
          · refine FinP.mk ?_
            refine congrArg Value.bool ?_
            have : decide (d.n0.length ≤ 45) = false := by simp only [decide_eq_false_iff_not]; omega
            simp [fewF, this]
          · repeat' (refine OblP.mk ?_ (W.mk ?_); (first | trivial | omega | (simp only [inR]; omega) | exact Nat.le_of_ble_eq_true (by rfl) | exact SlR.some (by assumption) (by omega)); (conv => whnf))
            refine RoundP.of 1 (HeadP.of [] ⟨rfl, rfl, trivial⟩ ⟨rfl, trivial⟩) ⟨by show (1 : Nat) ≤ 2; omega, fun _ => by omega, fun h => by exact absurd h (by show ¬ (1 < 1); omega)⟩ (by simp only; omega)
      · repeat' (refine OblP.mk ?_ (W.mk ?_); (first | trivial | omega | (simp only [inR]; omega) | exact Nat.le_of_ble_eq_true (by rfl) | exact SlR.some (by assumption) (by omega)); (conv => whnf))
        refine EqsP.mk ⟨[.val (.slice x1 y1 z1)], rfl, rfl, W.mk ?_⟩
        (conv => whnf)
        have hx1 := hx1 (by omega)
        refine IteP.mk (fun h1 => W.mk ?_) (fun h1 => W.mk ?_) <;> (conv => whnf)
        · refine FinP.mk ?_
          refine congrArg Value.bool ?_
          have : decide (d.a1.length ≤ 45) = false := by simp only [decide_eq_false_iff_not]; omega
          simp [fewF, this]
        · repeat' (refine OblP.mk ?_ (W.mk ?_); (first | trivial | omega | (simp only [inR]; omega) | exact Nat.le_of_ble_eq_true (by rfl) | exact SlR.some (by assumption) (by omega)); (conv => whnf))
          refine EqsP.mk ⟨[.val (.slice x3 y3 z3)], rfl, rfl, W.mk ?_⟩
          (conv => whnf)
          refine IteP.mk (fun h2 => W.mk ?_) (fun h2 => W.mk ?_) <;> (conv => whnf)
          · refine FinP.mk ?_
            refine congrArg Value.bool ?_
            have : decide (d.n1.length ≤ 45) = false := by simp only [decide_eq_false_iff_not]; omega
            simp [fewF, this]
          · repeat' (refine OblP.mk ?_ (W.mk ?_); (first | trivial | omega | (simp only [inR]; omega) | exact Nat.le_of_ble_eq_true (by rfl) | exact SlR.some (by assumption) (by omega)); (conv => whnf))
            refine RoundP.of 2 (HeadP.of [] ⟨rfl, rfl, trivial⟩ ⟨rfl, trivial⟩) ⟨by show (2 : Nat) ≤ 2; omega, fun _ => hx1, fun _ => by omega⟩ (by simp only; omega)
    · have : i = 2 := by omega
      subst this
      have hx1 := hx1 (by omega)
      have hx2 := hx2 (by omega)
      have d0 : decide (d.a0.length ≤ 45) = true := by simp only [decide_eq_true_eq]; omega
      have d1 : decide (d.a1.length ≤ 45) = true := by simp only [decide_eq_true_eq]; omega
      have d2 : decide (d.n0.length ≤ 45) = true := by simp only [decide_eq_true_eq]; omega
      have d3 : decide (d.n1.length ≤ 45) = true := by simp only [decide_eq_true_eq]; omega
      refine IteP.mk (fun h1 => W.mk ?_) (fun h1 => W.mk ?_) <;> (conv => whnf)
      · have d4 : decide (d.ps.length ≤ 12) = true := by simp only [decide_eq_true_eq]; omega
        refine IteP.mk (fun h2 => W.mk ?_) (fun h2 => W.mk ?_) <;> (conv => whnf) <;> refine FinP.mk ?_ <;> refine congrArg Value.bool ?_
        · have d5 : decide (d.qs.length ≤ 12) = true := by simp only [decide_eq_true_eq]; omega
          simp [fewF, d0, d1, d2, d3, d4, d5]
        · have d5 : decide (d.qs.length ≤ 12) = false := by simp only [decide_eq_false_iff_not]; omega
          simp [fewF, d5]
      · refine FinP.mk ?_
        refine congrArg Value.bool ?_
        have d4 : decide (d.ps.length ≤ 12) = false := by simp only [decide_eq_false_iff_not]; omega
        simp [fewF, d4]
end Go.Proofs.YtgpfejgohclheaaGreat

namespace Go.Proofs.YtgpfejgohclheaaGreat
open Go.Pal
theorem trK_mem {may : Nat → List Int} : ∀ r m f g, (∀ j, m ≤ j → j < m + r → g j ∈ may j) → (∀ j, j < m ∨ m + r ≤ j → g j = f j) → g ∈ trK may r m f
  | 0, m, f, g, _, h2 => by
    simp only [trK, List.mem_singleton]
    funext j
    exact h2 j (by omega)
  | r + 1, m, f, g, h1, h2 => by
    simp only [trK, List.mem_flatMap]
    refine ⟨g m, h1 m (by omega) (by omega), trK_mem r (m + 1) _ g (fun j a b => h1 j (by omega) (by omega)) (fun j hj => ?_)⟩
    by_cases hjm : j = m
    · subst hjm; rw [if_pos rfl]
    · rw [if_neg hjm]; exact h2 j (by omega)
theorem tru_mem {d : Dv} (hr : rightD d = true) {g : Nat → Int} : g ∈ truL (lookF d) ↔ (∀ k, k < d.m.toNat → g k ∈ votesF d k) ∧ ∀ k, d.m.toNat ≤ k → g k = 0 := by
  have hm := right_m hr
  constructor
  · intro h
    obtain ⟨h1, h2⟩ := trK_spec _ _ _ _ h
    refine ⟨fun k hk => ?_, fun k hk => h2 k (.inr (by show 0 + d.m.toNat ≤ k; omega))⟩
    have := h1 k (Nat.zero_le _) (by show k < 0 + d.m.toNat; omega)
    rwa [mayL, may_look hm.2 hk] at this
  · rintro ⟨h1, h2⟩
    refine trK_mem _ _ _ _ (fun j _ hj => ?_) (fun j hj => ?_)
    · have hj : j < 0 + d.m.toNat := hj
      rw [mayL, may_look hm.2 (by omega)]
      exact h1 j (by omega)
    · have hj : j < 0 ∨ 0 + d.m.toNat ≤ j := hj
      exact h2 j (by omega)

/-- A truth, as it is counted. -/
def Fit (d : Dv) (t : List Int) : Prop := (t.length : Int) = d.m ∧ ∀ k, k < t.length → t.getD k 0 ∈ votesF d k
theorem Fit.tru {d : Dv} {t : List Int} (hr : rightD d = true) (h : Fit d t) : (fun k => t.getD k 0) ∈ truL (lookF d) := by
  obtain ⟨h1, h2⟩ := h
  refine (tru_mem hr).2 ⟨fun k hk => h2 k (by omega), fun k hk => ?_⟩
  show t.getD k 0 = 0
  rw [List.getD_eq_getElem?_getD, List.getElem?_eq_none (by omega)]; rfl
theorem Fit.of {d : Dv} {t : List Int} (hr : rightD d = true) : ofF d (trT fun k => t.getD k 0) = ofF d t :=
  ofF_ext hr fun k hk => by have := right_m hr; exact trT_get (by omega)
theorem Fit.vote {d : Dv} {t : List Int} (h : Fit d t) : ∀ v ∈ t, v = 0 ∨ v = 1 ∨ v = 2 := fun v hv => by
  obtain ⟨k, hk, rfl⟩ := List.getElem_of_mem hv
  have := h.2 k hk
  rw [List.getD_eq_getElem?_getD, List.getElem?_eq_getElem hk] at this
  exact votes_012 this
theorem fault_clash {d : Dv} (h : faultF d = 0) : rightD d = true ∧ clashF d < 0 := by
  refine ⟨fault_right h, ?_⟩
  rw [faultF, fault_right h] at h
  simpa using h
theorem Fit.cnt {d : Dv} {t : List Int} (hf : faultF d = 0) (h : Fit d t) : cntE d t = 0 := by
  obtain ⟨hr, hc⟩ := fault_clash hf
  have h1 : votF d t = true := by
    simp only [votF, Bool.and_eq_true, decide_eq_true_eq, List.all_eq_true]
    exact ⟨h.1, fun v hv => by have := h.vote v hv; omega⟩
  have h2 : fitsF d t = true := by
    simp only [fitsF, List.all_eq_true, List.mem_range]
    exact fun k hk => by rw [fitF]; simpa using h.2 k hk
  rw [cntE, if_pos hr, if_pos h1, if_neg (by omega), if_pos h2]
end Go.Proofs.YtgpfejgohclheaaGreat

namespace Go.Proofs.YtgpfejgohclheaaGreat
open Go.Pal Go.ChangeShapes

theorem SlR.map {α β : Type} {k : Nat} {R : Hp → List Value → α → Prop} {R' : Hp → List Value → β → Prop} {G : Hp} {a : Option Addr} {n c : Nat} {l : List α} (f : α → β) (hf : ∀ cs x, R G cs x → R' G cs (f x)) (h : SlR k R G a n c l) : SlR k R' G a n c (l.map f) :=
  ⟨by rw [List.length_map, h.len], h.cap, h.some, fun i hi => by
    obtain ⟨cs, h1, h2, h3⟩ := h.at_ i (by simpa using hi)
    exact ⟨cs, h1, h2, by rw [List.getElem_map]; exact hf _ _ h3⟩⟩
theorem udl3 : Tryz.prog.underlying 3 = some (.int .i64) := by kernel_rfl
theorem udl5 : Tryz.prog.underlying 5 = some (.int .u8) := by kernel_rfl
theorem o3 : Opens Tryz.prog 3 (cdInt .i64) := .int udl3
theorem o5 : Opens Tryz.prog 5 (cdInt .u8) := .int udl5
theorem o4 : Opens Tryz.prog 4 cdBool := .bool (by kernel_rfl)
theorem o22 : Opens Tryz.prog 22 (cdSl (cdInt .i64)) := .slice (e := 3) (by kernel_rfl) o3 (by decide)
abbrev cdTwo := cdPair (cdSl (cdInt .i64)) (cdPair (cdSl (cdInt .i64)) cdUnit)
theorem o23 : Opens Tryz.prog 23 cdTwo := .two (e := 22) (by kernel_rfl) o22 (by kernel_rfl)
abbrev cdPr := cdPair (cdInt .i64) (cdPair (cdInt .i64) cdUnit)
theorem o82 : Opens Tryz.prog 68 cdPr := .struct (fs := [(3, 0), (3, 1)]) (by kernel_rfl) (by kernel_rfl) (OpensF.cons o3 (OpensF.cons o3 OpensF.nil))
theorem o83 : Opens Tryz.prog 88 cdPr := .struct (fs := [(3, 0), (3, 1)]) (by kernel_rfl) (by kernel_rfl) (OpensF.cons o3 (OpensF.cons o3 OpensF.nil))
theorem o24 : Opens Tryz.prog 24 (cdSl cdPr) := .slice (e := 68) (by kernel_rfl) o82 (by decide)
theorem o25 : Opens Tryz.prog 25 (cdSl cdPr) := .slice (e := 88) (by kernel_rfl) o83 (by decide)
abbrev cdDv := cdPair (cdInt .i64) (cdPair cdTwo (cdPair cdTwo (cdPair (cdSl cdPr) (cdPair (cdSl cdPr) (cdPair (cdInt .u8) (cdPair (cdInt .i64) (cdPair (cdInt .i64) (cdPair (cdInt .u8) cdUnit))))))))
theorem o27 : Opens Tryz.prog 27 cdDv := .struct (fs := [(3, 0), (23, 1), (23, 3), (24, 5), (25, 6), (5, 7), (3, 8), (3, 9), (5, 10)]) (by kernel_rfl) (by kernel_rfl) (OpensF.cons o3 (OpensF.cons o23 (OpensF.cons o23 (OpensF.cons o24 (OpensF.cons o25 (OpensF.cons o5 (OpensF.cons o3 (OpensF.cons o3 (OpensF.cons o5 OpensF.nil)))))))))
theorem pr_cd {G : Hp} {cs : List Value} {x} (h : cdPr.R G cs x) : prE.R G cs (x.1, x.2.1) := by
  obtain ⟨_, _, rfl, ⟨rfl, _⟩, _, _, rfl, ⟨rfl, _⟩, rfl⟩ := h; rfl
theorem dv_val {G : Hp} {v : Value} (h : ∃ x, VR cdDv true G v x) : ∃ d, DuV G v d ∧ rul d := by
  obtain ⟨x, cs, rfl, _, _, e, ⟨rfl, _⟩, _, _, rfl, ⟨_, _, rfl, ⟨a0, n0, c0, rfl, h0, _⟩, _, _, rfl, ⟨a1, n1, c1, rfl, h1, _⟩, rfl⟩, _, _, rfl, ⟨_, _, rfl, ⟨a2, n2, c2, rfl, h2, _⟩, _, _, rfl, ⟨a3, n3, c3, rfl, h3, _⟩, rfl⟩,
    _, _, rfl, ⟨a4, n4, c4, rfl, h4, _⟩, _, _, rfl, ⟨a5, n5, c5, rfl, h5, _⟩, _, _, rfl, ⟨rfl, hr⟩, _, _, rfl, ⟨rfl, _⟩, _, _, rfl, ⟨rfl, _⟩, _, _, rfl, ⟨rfl, _⟩, rfl⟩ := h
  have hi : ∀ (cs : List Value) x, (cdInt .i64).R G cs x → intE.R G cs (id x) := fun _ _ h => h.1
  refine ⟨⟨x.1, x.2.1.1, x.2.1.2.1, x.2.2.1.1, x.2.2.1.2.1, x.2.2.2.1.map fun p => (p.1, p.2.1), x.2.2.2.2.1.map fun p => (p.1, p.2.1), x.2.2.2.2.2.1, x.2.2.2.2.2.2.1, x.2.2.2.2.2.2.2.1, x.2.2.2.2.2.2.2.2.1⟩,
    ⟨.slice a0 n0 c0, .slice a1 n1 c1, .slice a2 n2 c2, .slice a3 n3 c3, .slice a4 n4 c4, .slice a5 n5 c5, ?_, ⟨a0, n0, c0, rfl, ?_⟩, ⟨a1, n1, c1, rfl, ?_⟩, ⟨a2, n2, c2, rfl, ?_⟩, ⟨a3, n3, c3, rfl, ?_⟩, ⟨a4, n4, c4, rfl, SlR.map _ (fun _ _ h => pr_cd h) h4⟩, ⟨a5, n5, c5, rfl, SlR.map _ (fun _ _ h => pr_cd h) h5⟩⟩, ?_⟩
  · simp at e
    exact congrArg Value.agg (Array.toList_inj.1 e)
  · have := SlR.map id hi h0; rwa [List.map_id] at this
  · have := SlR.map id hi h1; rwa [List.map_id] at this
  · have := SlR.map id hi h2; rwa [List.map_id] at this
  · have := SlR.map id hi h3; rwa [List.map_id] at this
  · simp only [inR] at hr
    exact ⟨hr.1, by have := hr.2; show _ ≤ _; omega⟩
theorem ownK : ownKnob Tryz.checked.prog.godebug = none := by kernel_rfl
theorem laidK : laidOutB Tryz.checked.prog = true := by kernel_rfl
theorem boolK : Tryz.checked.prog.underlying 4 = some .bool := by kernel_rfl
abbrev dv0 : Value := .agg #[.int .i64 0, .slice none 0 0, .slice none 0 0, .slice none 0 0, .slice none 0 0, .slice none 0 0, .slice none 0 0, .int .u8 0, .int .i64 0, .int .i64 0, .int .u8 0]
end Go.Proofs.YtgpfejgohclheaaGreat

namespace Go.Proofs.YtgpfejgohclheaaGreat
open Go.Pal
set_option maxRecDepth 100000
abbrev U32 (n : Int) : Value := .int .u32 n
def u32Rd : Rd Int := ⟨fun _ v x => v = U32 x, fun {_ _ _ _} h h' => by rw [h] at h'; cases h'; rfl, fun {_ _ _ _} _ h => h⟩
/-- The votes that a member may have, below one. -/
def vK (d : Dv) (m : Int) (v : Nat) : List Int := ((List.range v).filter fun i => mayF d m (i : Nat)).map Int.ofNat
theorem vK_succ (d : Dv) (m : Int) (v : Nat) : vK d m (v + 1) = if mayF d m v then vK d m v ++ [(v : Int)] else vK d m v := by
  simp only [vK, List.range_succ, List.filter_append, List.map_append]
  cases h : mayF d m v <;> simp [List.filter, h]
theorem vK_votes (d : Dv) (m : Int) : vK d m 3 = votesF d m := by
  rw [vK_succ, vK_succ, vK_succ]
  have h0 : vK d m 0 = [] := rfl
  rw [h0, votesF]
  show (if mayF d m 2 = true then (if mayF d m 1 = true then (if mayF d m 0 = true then [] ++ [(0 : Int)] else []) ++ [(1 : Int)] else (if mayF d m 0 = true then [] ++ [(0 : Int)] else [])) ++ [(2 : Int)] else (if mayF d m 1 = true then (if mayF d m 0 = true then [] ++ [(0 : Int)] else []) ++ [(1 : Int)] else (if mayF d m 0 = true then [] ++ [(0 : Int)] else []))) = _
  cases mayF d m 0 <;> cases mayF d m 1 <;> cases mayF d m 2 <;> rfl
theorem vK_len (d : Dv) (m : Int) (v : Nat) : (vK d m v).length ≤ v := by
  simp only [vK, List.length_map]
  exact Nat.le_trans (List.length_filter_le _ _) (by simp)
/-- The votes that are chosen so far fit. -/
def ChK (d : Dv) (t : List Int) (m : Nat) : Prop := t.length = m ∧ ∀ k, k < m → t.getD k 0 ∈ votesF d k
theorem ChK.snoc {d : Dv} {t : List Int} {m : Nat} (h : ChK d t m) {x : Int} (hx : x ∈ votesF d m) : ChK d (t ++ [x]) (m + 1) := by
  obtain ⟨h1, h2⟩ := h
  refine ⟨by simp [h1], fun k hk => ?_⟩
  rw [List.getD_eq_getElem?_getD]
  by_cases hkm : k < m
  · rw [List.getElem?_append_left (by omega), ← List.getD_eq_getElem?_getD]
    exact h2 k hkm
  · have : k = t.length := by omega
    subst this
    rw [List.getElem?_concat_length]
    rw [h1]; exact hx
theorem votes_ne {d : Dv} (hf : faultF d = 0) {m : Nat} (hm : m < d.m.toNat) : votesF d m ≠ [] := by
  obtain ⟨hr, hc⟩ := fault_clash hf
  obtain ⟨g, hg⟩ := List.exists_mem_of_ne_nil _ (numbers_ne hf)
  have := ((tru_mem hr).1 hg).1 m hm
  intro h
  rw [h] at this
  cases this
def tabCh7 : Tab Tryz.prog := Tab.cons 54 _ may44 body54 (Tab.nil _)
theorem chosen31 : Sound Tryz.prog 31 id (grel (args2 dvRd u32Rd fun d w => faultF d = 0 ∧ 0 ≤ w ∧ w ≤ 4294967295) fun x v G => ∃ t, Fit x.1 t ∧ SlV u8E G v t) := by
  refine comp31.grel tabCh7 (ok2 _ _ _) (fun args G s h => ?_) (fun x v G G' hg ⟨t, h1, h2⟩ => ⟨t, h1, h2.grow hg⟩) (fun args G x h => ?_)
  · obtain ⟨v, w, rfl, _⟩ := h; simp
  · obtain ⟨d, w0⟩ := x
    obtain ⟨u, v, rfl, ⟨w0', w1, w2, w3, w4, w5, rfl, hd⟩, rfl, hf, hw0, hw1⟩ := h
    dsimp only at hd hf hw0 hw1
    have hm := fault_m hf
    have hd0 := hd
    obtain ⟨x0, y0, z0, rfl, la0, ya0⟩ := id hd.a0
    obtain ⟨x1, y1, z1, rfl, la1, ya1⟩ := id hd.a1
    obtain ⟨x2, y2, z2, rfl, ln0, yn0⟩ := id hd.n0
    obtain ⟨x3, y3, z3, rfl, ln1, yn1⟩ := id hd.n1
    obtain ⟨x4, y4, z4, rfl, lps, yps⟩ := id hd.ps
    obtain ⟨x5, y5, z5, rfl, lqs, yqs⟩ := id hd.qs
    dsimp only
    (conv => whnf)
    refine LoopP.of { α := Nat × Int × Nat × List Int × List Value, fr := fun x => [(1, .v (U32 x.2.1)), (2, .c (.ptr 0 0)), (5, .c (.row 2 x.2.2.1)), (6, .v (I x.1))], H := fun x => [(0, .cells .anon (DVC d x0 x1 x2 x3 x4 x5 y0 z0 y1 z1 y2 z2 y3 z3 y4 z4 y5 z5) 27), (2, .row none x.2.2.1 x.2.2.2.2 5 1)], ok := fun x _ => x.1 ≤ d.m.toNat ∧ (0 ≤ x.2.1 ∧ x.2.1 ≤ 4294967295) ∧ Row u8E x.2.2.2.1 x.2.2.1 x.2.2.2.2 ∧ ChK d x.2.2.2.1 x.1, m := fun x => d.m.toNat - x.1 }
      (0, w0, 0, [], []) (HeadP.of [(2, none)] ⟨rfl, rfl, rfl, rfl, trivial⟩ ⟨rfl, rfl, trivial⟩) ⟨Nat.zero_le _, ⟨hw0, hw1⟩, Row.nil, rfl, fun k hk => by omega⟩ (fun _ => ⟨rfl, rfl⟩) (fun x G' hG hx => W.mk ?_)
    obtain ⟨i, w, n, t, vs⟩ := x
    obtain ⟨hi, ⟨hwa, hwb⟩, hr, hch⟩ := hx
    dsimp only at hi hwa hwb hr hch
    have hd1 := hd0.grow hG
    have hnl := hr.n
    have htl := hch.1
    dsimp only
    (conv => whnf)
    refine IteP.mk (fun hlt => W.mk ?_) (fun hge => W.mk ?_) <;> (conv => whnf)
    · have hlt : i < d.m.toNat := by omega
      refine LoopP.of { α := Nat × Nat × List Value, fr := fun x => [(1, .v (U32 w)), (2, .c (.ptr 0 0)), (5, .c (.row 2 n)), (6, .v (I i)), (7, .c (.row 8 x.2.1)), (8, .v (I x.1))], H := fun x => [(0, .cells .anon (DVC d x0 x1 x2 x3 x4 x5 y0 z0 y1 z1 y2 z2 y3 z3 y4 z4 y5 z5) 27), (2, .row none n vs 5 1), (8, .row none x.2.1 x.2.2 5 1)], ok := fun x _ => x.1 ≤ 3 ∧ Row u8E (vK d i x.1) x.2.1 x.2.2, m := fun x => 3 - x.1 }
        (0, 0, []) (HeadP.of [(8, none)] ⟨rfl, rfl, rfl, rfl, rfl, rfl, trivial⟩ ⟨rfl, rfl, rfl, trivial⟩) ⟨Nat.zero_le _, Row.nil⟩ (fun _ => ⟨rfl, rfl⟩) (fun x G2 hG2 hx => W.mk ?_)
      obtain ⟨v, mn, ms⟩ := x
      obtain ⟨hv3, hmr⟩ := hx
      dsimp only at hv3 hmr
      have hd2 := hd1.grow hG2
      have hml := hmr.n
      have hvl := vK_len d i v
      dsimp only
      (conv => whnf)
      refine IteP.mk (fun hv => W.mk ?_) (fun hv => W.mk ?_) <;> (conv => whnf)
      · repeat' (refine OblP.mk ?_ (W.mk ?_); (first | trivial | omega | (simp only [inR]; omega) | exact Nat.le_of_ble_eq_true (by rfl) | exact SlR.some (by assumption) (by omega)); (conv => whnf))
        refine ScaP.g (ok3 dvRd intRd u8Rd fun _ _ _ => True) (x := (d, (i : Int), (v : Int))) ⟨_, _, _, rfl, ⟨_, _, _, _, _, _, rfl, hd2⟩, rfl, rfl, trivial⟩ (fun v hv => W.mk ?_)
        subst hv
        dsimp only
        (conv => whnf)
        refine ForkP.mk (fun hq => W.mk ?_) (fun hq => W.mk ?_) <;> (conv => whnf)
        · repeat' (refine OblP.mk ?_ (W.mk ?_); (first | trivial | omega | (simp only [inR]; omega) | exact Nat.le_of_ble_eq_true (by rfl) | exact SlR.some (by assumption) (by omega)); (conv => whnf))
          refine RoundP.of (v + 1, mn + 1, ms ++ [U v]) (HeadP.of [(8, some 21)] ⟨rfl, rfl, rfl, rfl, rfl, rfl, trivial⟩ ⟨rfl, rfl, rfl, trivial⟩) ⟨by show v + 1 ≤ 3; omega, ?_⟩ (by simp only; omega)
          rw [vK_succ, if_pos hq]
          exact hmr.snoc (v : Int)
        · repeat' (refine OblP.mk ?_ (W.mk ?_); (first | trivial | omega | (simp only [inR]; omega) | exact Nat.le_of_ble_eq_true (by rfl) | exact SlR.some (by assumption) (by omega)); (conv => whnf))
          refine RoundP.of (v + 1, mn, ms) (HeadP.of [] ⟨rfl, rfl, rfl, rfl, rfl, rfl, trivial⟩ ⟨rfl, rfl, rfl, trivial⟩) ⟨by show v + 1 ≤ 3; omega, ?_⟩ (by simp only; omega)
          rw [vK_succ, if_neg (by rw [hq]; simp)]
          exact hmr
      · have : v = 3 := by omega
        subst this
        rw [vK_votes] at hmr
        have hmne := List.length_pos_iff.2 (votes_ne hf hlt)
        have hmn : mn = (votesF d i).length := hmr.n
        have hw3 := Int.emod_nonneg w (show (mn : Int) ≠ 0 by omega)
        have hw4 := Int.emod_lt_of_pos w (show 0 < (mn : Int) by omega)
        refine IteP.mk (fun h1 => W.mk ?_) (fun h1 => W.mk ?_) <;> (conv => whnf)
        · repeat' (refine OblP.mk ?_ (W.mk ?_); (first | trivial | omega | (simp only [inR]; omega) | exact Nat.le_of_ble_eq_true (by rfl) | exact SlR.some (by assumption) (by omega)); (conv => whnf))
          have hk : (w % (mn : Int)).toNat < (votesF d i).length := by omega
          refine EqP.row hmr (i := (w % (mn : Int)).toNat) hk (W.mk ?_)
          (conv => whnf)
          repeat' (refine OblP.mk ?_ (W.mk ?_); (first | trivial | omega | (simp only [inR]; omega) | exact Nat.le_of_ble_eq_true (by rfl) | exact SlR.some (by assumption) (by omega)); (conv => whnf))
          refine RoundP.of (i + 1, (w / 3), n + 1, t ++ [(votesF d i)[(w % (mn : Int)).toNat]'hk], vs ++ [U ((votesF d i)[(w % (mn : Int)).toNat]'hk)]) (HeadP.of [(2, some 45)] ⟨rfl, rfl, rfl, rfl, trivial⟩ ⟨rfl, rfl, trivial⟩) ⟨hlt, ⟨by simp only; omega, by simp only; omega⟩, hr.snoc _, hch.snoc (List.getElem_mem _)⟩ (by simp only; omega)
        · repeat' (refine OblP.mk ?_ (W.mk ?_); (first | trivial | omega | (simp only [inR]; omega) | exact Nat.le_of_ble_eq_true (by rfl) | exact SlR.some (by assumption) (by omega)); (conv => whnf))
          have hk : 0 < (votesF d i).length := by omega
          refine EqP.row hmr (i := 0) hk (W.mk ?_)
          (conv => whnf)
          repeat' (refine OblP.mk ?_ (W.mk ?_); (first | trivial | omega | (simp only [inR]; omega) | exact Nat.le_of_ble_eq_true (by rfl) | exact SlR.some (by assumption) (by omega)); (conv => whnf))
          refine RoundP.of (i + 1, w, n + 1, t ++ [(votesF d i)[0]'hk], vs ++ [U ((votesF d i)[0]'hk)]) (HeadP.of [(2, some 45)] ⟨rfl, rfl, rfl, rfl, trivial⟩ ⟨rfl, rfl, trivial⟩) ⟨hlt, ⟨by simp only; omega, by simp only; omega⟩, hr.snoc _, hch.snoc (List.getElem_mem _)⟩ (by simp only; omega)
    · have : i = d.m.toNat := by omega
      subst this
      refine PubP.mk (fun a1 c1 G1 hg1 hp => W.mk ?_)
      (conv => whnf)
      exact FinP.mk ⟨t, ⟨by omega, fun k hk => hch.2 k (by omega)⟩, hr.pub hp (by omega)⟩
end Go.Proofs.YtgpfejgohclheaaGreat

namespace Go.Proofs.YtgpfejgohclheaaGreat
open Go.Pal
set_option maxRecDepth 100000
def readyF (d : Dv) : Bool := fewF d && decide (openF d = 0)
def tabRdy : Tab Tryz.prog := Tab.cons 22 _ few20u body22 (Tab.cons 16 _ open17 body16 (Tab.nil _))
theorem ready30 : Sound Tryz.prog 30 id (gsca (args1 duRd fun _ => True) fun d v => v = .bool (readyF d)) := by
  refine comp30.gsca tabRdy (fun args G s h => ?_) (fun args G d h => ?_)
  · obtain ⟨v, rfl, _⟩ := h; simp
  · obtain ⟨u, rfl, ⟨w0, w1, w2, w3, w4, w5, rfl, hd⟩, _⟩ := h
    have hdv : DuV G _ d := ⟨_, _, _, _, _, _, rfl, hd⟩
    obtain ⟨x0, y0, z0, rfl, la0⟩ := id hd.a0
    obtain ⟨x1, y1, z1, rfl, la1⟩ := id hd.a1
    obtain ⟨x2, y2, z2, rfl, ln0⟩ := id hd.n0
    obtain ⟨x3, y3, z3, rfl, ln1⟩ := id hd.n1
    obtain ⟨x4, y4, z4, rfl, lps⟩ := id hd.ps
    obtain ⟨x5, y5, z5, rfl, lqs⟩ := id hd.qs
    (conv => whnf)
    refine ScaP.g (ok1 duRd fun _ => True) (x := d) ⟨_, rfl, hdv, trivial⟩ (fun v hv => W.mk ?_)
    subst hv
    (conv => whnf)
    refine ForkP.mk (fun hf => W.mk ?_) (fun hf => W.mk ?_) <;> (conv => whnf)
    · refine ScaP.g (ok1 dvRd fun _ => True) (x := d) ⟨_, rfl, hdv.v hf, trivial⟩ (fun v hv => W.mk ?_)
      subst hv
      (conv => whnf)
      repeat' (first | (refine IteP.mk (fun _ => W.mk ?_) (fun _ => W.mk ?_) <;> (conv => whnf)) | (refine FinP.mk ?_))
      all_goals (refine congrArg Value.bool ?_; simp [readyF, *])
    · refine FinP.mk ?_
      refine congrArg Value.bool ?_
      simp [readyF, hf]
end Go.Proofs.YtgpfejgohclheaaGreat

namespace Go.Proofs.YtgpfejgohclheaaGreat
open Go.Pal
set_option maxRecDepth 100000
theorem ready_fault {d : Dv} (h : readyF d = true) : fewF d = true ∧ openF d = 0 ∧ faultF d = 0 := by
  simp only [readyF, Bool.and_eq_true, decide_eq_true_eq] at h
  exact ⟨h.1, h.2, (open_fault h.2).1⟩
end Go.Proofs.YtgpfejgohclheaaGreat

namespace Go.Proofs.YtgpfejgohclheaaGreat
open Go.Pal
set_option maxRecDepth 100000
set_option maxHeartbeats 1000000
end Go.Proofs.YtgpfejgohclheaaGreat

namespace Go.Proofs.YtgpfejgohclheaaGreat
open Go.Pal
set_option maxRecDepth 100000
end Go.Proofs.YtgpfejgohclheaaGreat

namespace Go.Proofs.YtgpfejgohclheaaGreat
open Go.Pal
set_option maxRecDepth 100000
set_option maxHeartbeats 1000000
end Go.Proofs.YtgpfejgohclheaaGreat

namespace Go.Proofs.YtgpfejgohclheaaGreat
open Go.Pal Go.ChangeShapes
theorem o57 : Opens Tryz.prog 57 (cdInt .u32) := .int (by kernel_rfl)
theorem u32_val {G : Hp} {v : Value} (h : ∃ x, VR (cdInt .u32) false G v x) : ∃ n, u32Rd.R G v n ∧ 0 ≤ n ∧ n ≤ 4294967295 := by
  obtain ⟨x, e, hr⟩ := h
  simp only [inR] at hr
  simp only [List.cons.injEq, and_true] at e
  exact ⟨x, e, hr.1, by omega⟩
end Go.Proofs.YtgpfejgohclheaaGreat

namespace Go.Proofs.YtgpfejgohclheaaGreat
open Go.Pal
set_option maxRecDepth 100000
set_option maxHeartbeats 1000000
end Go.Proofs.YtgpfejgohclheaaGreat

namespace Go.Proofs.YtgpfejgohclheaaGreat
open Go.Pal
def C3.two (c : C3) : Int := c.c1 + c.c2
end Go.Proofs.YtgpfejgohclheaaGreat

namespace Go.Proofs.YtgpfejgohclheaaGreat
open Go.Pal
set_option maxRecDepth 100000
theorem Fit.set {d : Dv} {t t' : List Int} {i : Nat} (h : Fit d t) (h' : Fit d t') (hi : i < t.length) (hi' : i < t'.length) : Fit d (t.set i t'[i]) := by
  refine ⟨by rw [List.length_set]; exact h.1, fun k hk => ?_⟩
  rw [List.length_set] at hk
  rw [getD_set _ _ _ _ hi]
  split
  · rename_i e
    subst e
    have := h'.2 k hi'
    simpa [hi'] using this
  · exact h.2 k hk
set_option maxHeartbeats 1000000
end Go.Proofs.YtgpfejgohclheaaGreat

namespace Go.Proofs.YtgpfejgohclheaaGreat
open Go.Pal
def toldF (l : List Int) (m : Int) (b : Bool) : List Int := l.filter (fun x => decide (x < m)) ++ (if b then [m] else []) ++ l.filter (fun x => decide (m < x))
theorem told_mem {l : List Int} {m : Int} {b : Bool} {y : Int} : y ∈ toldF l m b ↔ if y = m then b = true else y ∈ l := by
  simp only [toldF, List.mem_append, List.mem_filter, decide_eq_true_eq]
  by_cases h : y = m
  · subst h; rw [if_pos rfl]; cases b <;> simp
  · rw [if_neg h]
    have hb : ¬ y ∈ (if b = true then [m] else []) := by cases b <;> simp [h]
    constructor
    · rintro ((⟨h1, _⟩ | h1) | ⟨h1, _⟩)
      · exact h1
      · exact absurd h1 hb
      · exact h1
    · intro h1
      rcases (by omega : y < m ∨ m < y) with h2 | h2
      · exact .inl (.inl ⟨h1, h2⟩)
      · exact .inr ⟨h1, h2⟩
theorem told_has {l : List Int} {m : Int} {b : Bool} {y : Int} : (toldF l m b).contains y = if y = m then b else l.contains y := by
  rw [Bool.eq_iff_iff, List.contains_iff_mem, told_mem]
  split
  · rfl
  · rw [List.contains_iff_mem]
theorem gd0 {l : List Int} {k : Nat} (h : k < l.length) : l.getD k 0 = l[k] := by simp [h]
theorem ris_pw {l : List Int} : risF l = true ↔ l.Pairwise (· < ·) := by
  rw [List.pairwise_iff_getElem]
  constructor
  · intro h
    have h : ∀ k, k + 1 < l.length → l.getD k 0 < l.getD (k + 1) 0 := by
      intro k hk
      simp only [risF, List.all_eq_true, List.mem_range, decide_eq_true_eq] at h
      exact h k (by omega)
    intro i j hi hj hij
    have key : ∀ n, ∀ hn : i + n + 1 < l.length, l[i] < l[i + n + 1] := by
      intro n
      induction n with
      | zero => intro hn; have := h i hn; rwa [gd0 (by omega), gd0 hn] at this
      | succ n ih =>
        intro hn
        have h1 := ih (by omega)
        have h2 := h (i + n + 1) (by omega)
        rw [gd0 (by omega), gd0 (by omega)] at h2
        exact Int.lt_trans h1 h2
    have := key (j - i - 1) (by omega)
    have e : i + (j - i - 1) + 1 = j := by omega
    simpa only [e] using this
  · intro h
    exact ris_true fun k hk => by rw [gd0 (by omega), gd0 hk]; exact h _ _ _ _ (by omega)
theorem told_pw {l : List Int} {m : Int} {b : Bool} (h : l.Pairwise (· < ·)) : (toldF l m b).Pairwise (· < ·) := by
  rw [toldF, List.pairwise_append, List.pairwise_append]
  refine ⟨⟨h.filter _, by cases b <;> simp, fun x hx y hy => ?_⟩, h.filter _, fun x hx y hy => ?_⟩
  · have h1 := (List.mem_filter.1 hx).2
    simp only [decide_eq_true_eq] at h1
    cases b
    · simp at hy
    · simp at hy; subst hy; exact h1
  · have h2 := (List.mem_filter.1 hy).2
    simp only [decide_eq_true_eq] at h2
    rcases List.mem_append.1 hx with hx | hx
    · have h1 := (List.mem_filter.1 hx).2
      simp only [decide_eq_true_eq] at h1
      omega
    · cases b
      · simp at hx
      · simp at hx; subst hx; exact h2
theorem inF_iff {x a b : Int} : inF x a b = true ↔ a ≤ x ∧ x ≤ b := by simp [inF]
theorem list_iff {m : Int} {l : List Int} : listF m l = true ↔ (∀ x ∈ l, 0 ≤ x ∧ x < m) ∧ l.Pairwise (· < ·) := by
  rw [listF, Bool.and_eq_true, ris_pw, List.all_eq_true]
  constructor
  · rintro ⟨h1, h2⟩; exact ⟨fun x hx => by have := inF_iff.1 (h1 x hx); omega, h2⟩
  · rintro ⟨h1, h2⟩; exact ⟨fun x hx => inF_iff.2 (by have := h1 x hx; omega), h2⟩
theorem told_list {m x : Int} {l : List Int} {b : Bool} (h : listF m l = true) (h0 : 0 ≤ x) (h1 : x < m) : listF m (toldF l x b) = true := by
  obtain ⟨h2, h3⟩ := list_iff.1 h
  refine list_iff.2 ⟨fun y hy => ?_, told_pw h3⟩
  have := told_mem.1 hy
  split at this
  · omega
  · exact h2 y this
theorem list_len {m : Int} {l : List Int} (h : listF m l = true) : l.length ≤ m.toNat := by
  obtain ⟨h1, h2⟩ := list_iff.1 h
  have := len_sub l ((List.range m.toNat).map Int.ofNat) (h2.imp fun h => Int.ne_of_lt h) (fun x hx => by
    have := h1 x hx
    exact List.mem_map.2 ⟨x.toNat, List.mem_range.2 (by omega), by show ((x.toNat : Nat) : Int) = x; omega⟩)
  simpa using this
/-- A member's vote, on both lists or on none. -/
def ansD (t : List Int) (d : Dv) (x : Int) : Dv := { d with a0 := toldF d.a0 x (decide (t.getD x.toNat 0 = 1)), a1 := toldF d.a1 x (decide (t.getD x.toNat 0 = 1)), n0 := toldF d.n0 x (decide (t.getD x.toNat 0 = 2)), n1 := toldF d.n1 x (decide (t.getD x.toNat 0 = 2)) }
theorem right_lists {d : Dv} (h : rightD d = true) : listF d.m d.a0 = true ∧ listF d.m d.a1 = true ∧ listF d.m d.n0 = true ∧ listF d.m d.n1 = true := by
  simp only [rightD, Bool.and_eq_true] at h
  obtain ⟨⟨⟨⟨⟨⟨h1, h2⟩, h3⟩, h4⟩, h5⟩, h6⟩, h7⟩ := h
  exact ⟨h2, h4, h3, h5⟩
theorem ans_right {t : List Int} {d : Dv} {x : Int} (h : rightD d = true) (h0 : 0 ≤ x) (hm : x < d.m) : rightD (ansD t d x) = true := by
  simp only [rightD, Bool.and_eq_true] at h ⊢
  obtain ⟨⟨⟨⟨⟨⟨h1, h2⟩, h3⟩, h4⟩, h5⟩, h6⟩, h7⟩ := h
  exact ⟨⟨⟨⟨⟨⟨h1, told_list h2 h0 hm⟩, told_list h3 h0 hm⟩, told_list h4 h0 hm⟩, told_list h5 h0 hm⟩, h6⟩, h7⟩
theorem ans_ona {t : List Int} {d : Dv} {x y : Int} : onF (ansD t d x).a y = if y = x then (if t.getD x.toNat 0 = 1 then 2 else 0) else onF d.a y := by
  show b2 ((toldF d.a0 x _).contains y) + b2 ((toldF d.a1 x _).contains y) = _
  rw [told_has, told_has]
  by_cases h : y = x
  · rw [if_pos h, if_pos h, if_pos h]
    by_cases h1 : t.getD x.toNat 0 = 1
    · rw [if_pos h1, decide_eq_true h1]; rfl
    · rw [if_neg h1, decide_eq_false h1]; rfl
  · rw [if_neg h, if_neg h, if_neg h]; rfl
theorem ans_onn {t : List Int} {d : Dv} {x y : Int} : onF (ansD t d x).n y = if y = x then (if t.getD x.toNat 0 = 2 then 2 else 0) else onF d.n y := by
  show b2 ((toldF d.n0 x _).contains y) + b2 ((toldF d.n1 x _).contains y) = _
  rw [told_has, told_has]
  by_cases h : y = x
  · rw [if_pos h, if_pos h, if_pos h]
    by_cases h1 : t.getD x.toNat 0 = 2
    · rw [if_pos h1, decide_eq_true h1]; rfl
    · rw [if_neg h1, decide_eq_false h1]; rfl
  · rw [if_neg h, if_neg h, if_neg h]; rfl
theorem ans_votes {t : List Int} {d : Dv} {x y : Int} (ht : t.getD x.toNat 0 = 0 ∨ t.getD x.toNat 0 = 1 ∨ t.getD x.toNat 0 = 2) : votesF (ansD t d x) y = if y = x then [t.getD x.toNat 0] else votesF d y := by
  simp only [votesF, mayF, ans_ona, ans_onn]
  by_cases h : y = x
  · simp only [if_pos h]
    rcases ht with h | h | h <;> rw [h] <;> decide
  · simp only [if_neg h]
theorem ans_cla {t : List Int} {d : Dv} {x : Int} {k : Nat} (h : cla d k = false) : cla (ansD t d x) k = false := by
  simp only [cla, ans_ona, ans_onn]
  by_cases h1 : (k : Int) = x
  · simp only [if_pos h1]
    by_cases h2 : t.getD x.toNat 0 = 1
    · rw [h2]; decide
    · rw [if_neg h2]; simp
  · simp only [if_neg h1]; exact h
theorem fault_iff {d : Dv} : faultF d = 0 ↔ rightD d = true ∧ ∀ k, k < d.m.toNat → cla d k = false := by
  constructor
  · intro h
    obtain ⟨hr, hc⟩ := fault_clash h
    refine ⟨hr, fun k hk => ?_⟩
    unfold clashF at hc
    split at hc
    · omega
    · rename_i hn
      rw [List.find?_eq_none] at hn
      have := hn k (List.mem_range.2 hk)
      simpa using this
  · rintro ⟨hr, hc⟩
    have : (List.range d.m.toNat).find? (cla d) = none := by
      rw [List.find?_eq_none]
      intro k hk
      rw [hc k (List.mem_range.1 hk)]; simp
    rw [faultF, hr, clashF, this]; rfl
theorem cntK_votes (d : Dv) (m : Int) : cntK d m 3 = (votesF d m).length := by
  simp only [cntK, votesF, List.length_append]
  cases mayF d m (0 : Nat) <;> cases mayF d m (1 : Nat) <;> cases mayF d m (2 : Nat) <;> simp_all [b2]
theorem dbt_votes (d : Dv) (m : Nat) : dbt d m = decide (1 < (votesF d m).length) := by
  rw [dbt, cntK_votes]
  congr 1
  rw [eq_iff_iff]; omega
theorem doubts_len (d : Dv) : (doubtsF d).length = (List.range d.m.toNat).countP (dbt d) := by
  rw [doubtsF, dK, List.length_map, List.countP_eq_length_filter]
theorem ans_open {t : List Int} {d : Dv} {x : Int} (ho : openF d = 0) (h0 : 0 ≤ x) (hm : x < d.m) (ht : t.getD x.toNat 0 = 0 ∨ t.getD x.toNat 0 = 1 ∨ t.getD x.toNat 0 = 2) : openF (ansD t d x) = 0 := by
  obtain ⟨hf, h8⟩ := open_fault ho
  obtain ⟨hr, hc⟩ := fault_iff.1 hf
  have hf' : faultF (ansD t d x) = 0 := fault_iff.2 ⟨ans_right hr h0 hm, fun k hk => ans_cla (hc k hk)⟩
  have hl : (doubtsF (ansD t d x)).length ≤ (doubtsF d).length := by
    rw [doubts_len, doubts_len]
    refine List.countP_mono_left fun k _ hk => ?_
    rw [dbt_votes, ans_votes ht] at hk
    rw [dbt_votes]
    split at hk
    · simp at hk
    · exact hk
  rw [openF, if_neg (by omega), hf']
/-- A division after the answers of some members. -/
structure Ansd (t : List Int) (d0 d : Dv) (q : List Int) : Prop where
  same : d = { d0 with a0 := d.a0, a1 := d.a1, n0 := d.n0, n1 := d.n1 }
  op : openF d = 0
  vt : ∀ y, votesF d y = if y ∈ q then [t.getD y.toNat 0] else votesF d0 y
theorem Ansd.nil {t : List Int} {d : Dv} (h : openF d = 0) : Ansd t d d [] := ⟨rfl, h, fun y => by simp⟩
theorem Ansd.snoc {t : List Int} {d0 d : Dv} {q : List Int} {x : Int} (h : Ansd t d0 d q) (h0 : 0 ≤ x) (hm : x < d0.m) (ht : t.getD x.toNat 0 = 0 ∨ t.getD x.toNat 0 = 1 ∨ t.getD x.toNat 0 = 2) : Ansd t d0 (ansD t d x) (q ++ [x]) := by
  have em : d.m = d0.m := by rw [h.same]
  refine ⟨?_, ans_open h.op h0 (by omega) ht, fun y => ?_⟩
  · have := h.same
    unfold ansD
    generalize d.a0 = a at *
    generalize d.a1 = a at *
    generalize d.n0 = a at *
    generalize d.n1 = a at *
    subst this
    rfl
  · rw [ans_votes ht, h.vt]
    by_cases hy : y = x
    · subst hy; simp
    · simp [hy]
theorem ofK_lists (d : Dv) (a b c e : List Int) (t : List Int) : ∀ i, ofK { d with a0 := a, a1 := b, n0 := c, n1 := e } t i = ofK d t i
  | 0 => rfl
  | i + 1 => by
    have ih := ofK_lists d a b c e t i
    simp only [ofK]
    rw [ih]; rfl
theorem ofP_lists (d : Dv) (a b c e : List Int) (t : List Int) : ∀ i, ofP { d with a0 := a, a1 := b, n0 := c, n1 := e } t i = ofP d t i
  | 0 => ofK_lists d a b c e t _
  | i + 1 => by
    have ih := ofP_lists d a b c e t i
    simp only [ofP]
    rw [ih]; rfl
theorem of_lists (d : Dv) (a b c e : List Int) (t : List Int) : ofF { d with a0 := a, a1 := b, n0 := c, n1 := e } t = ofF d t := by
  unfold ofF
  rw [ofP_lists]
theorem out_lists (d : Dv) (a b c e : List Int) (n : Nm2) : outF { d with a0 := a, a1 := b, n0 := c, n1 := e } n = outF d n := rfl
theorem dec_use {ts : List Tl} {ms : List Int} (h : decF ts ms = true) {x y : Tl} (hx : x ∈ ts) (hy : y ∈ ts) (he : ansT x ms = ansT y ms) : x.2 = y.2 := by
  have hdp := decF_true.1 h
  obtain ⟨i, hi⟩ := List.mem_iff_getElem?.1 hx
  obtain ⟨j, hj⟩ := List.mem_iff_getElem?.1 hy
  rcases Nat.lt_trichotomy i j with hij | hij | hij
  · exact (hdp j i hij _ _ hj hi he.symm).symm
  · subst hij
    rw [hi] at hj
    rw [Option.some.inj hj]
  · exact hdp i j hij _ _ hi hj he
theorem ans_f {x : Tl} {ms : List Int} {j : Nat} (hj : j < 40) : (ansT x ms).f j = if ms.contains (j : Int) then x.1.f j else 0 := by
  rw [ansT, Tr40.of_f hj]
theorem Ansd.allow {t : List Int} {d0 d : Dv} {q : List Int} (h : Ansd t d0 d q) (ho : openF d0 = 0) (hfit : Fit d0 t) (hq : ∀ x ∈ q, 0 ≤ x ∧ x < d0.m) (hdec : decF (tolF d0) q = true) : allowedF d = [outF d0 (ofF d0 t)] := by
  have hr0 := fault_right (open_fault ho).1
  have hr := fault_right (open_fault h.op).1
  have em : d.m = d0.m := by rw [h.same]
  have eo : ∀ f, outF d (ofF d f) = outF d0 (ofF d0 f) := fun f => by
    rw [h.same, of_lists, out_lists]
  have hm40 := right_m hr0
  have htr := hfit.tru hr0
  have hvt : ∀ k, k < d0.m.toNat → t.getD k 0 ∈ votesF d0 k := fun k hk => hfit.2 k (by have := hfit.1; omega)
  have hsub : ∀ f ∈ truL (lookF d), f ∈ truL (lookF d0) ∧ ∀ k : Nat, (k : Int) ∈ q → f k = t.getD k 0 := by
    intro f hf
    obtain ⟨h1, h2⟩ := (tru_mem hr).1 hf
    rw [em] at h1 h2
    have hag : ∀ k : Nat, (k : Int) ∈ q → f k = t.getD k 0 := fun k hk => by
      have := hq _ hk
      have := h1 k (by omega)
      rw [h.vt, if_pos hk] at this
      simpa using this
    refine ⟨(tru_mem hr0).2 ⟨fun k hk => ?_, h2⟩, hag⟩
    by_cases hkq : (k : Int) ∈ q
    · rw [hag k hkq]; exact hvt k hk
    · have := h1 k hk
      rwa [h.vt, if_neg hkq] at this
  have hself : (fun k => t.getD k 0) ∈ truL (lookF d) := by
    refine (tru_mem hr).2 ⟨fun k hk => ?_, fun k hk => ?_⟩
    · rw [h.vt]
      split
      · simp
      · exact hvt k (by omega)
    · rw [em] at hk
      exact ((tru_mem hr0).1 htr).2 k hk
  have hall : ∀ o ∈ outsF d, o = outF d0 (ofF d0 t) := by
    intro o hof
    obtain ⟨f, hf, rfl⟩ := List.mem_map.1 hof
    obtain ⟨hf0, hag⟩ := hsub f hf
    show outF d (ofF d (trT f)) = _
    rw [eo, ← Fit.of (t := t) hr0]
    have he : ansT (Tr40.of f, outT d0 f) q = ansT (Tr40.of (fun k => t.getD k 0), outT d0 fun k => t.getD k 0) q := by
      refine Tr40.ext fun j hj => ?_
      rw [ans_f hj, ans_f hj]
      split
      · rename_i hc
        show (Tr40.of f).f j = (Tr40.of fun k => t.getD k 0).f j
        rw [Tr40.of_f hj, Tr40.of_f hj]
        exact hag j (by simpa using hc)
      · rfl
    have m1 : (Tr40.of f, outT d0 f) ∈ tolF d0 := List.mem_map.2 ⟨f, hf0, rfl⟩
    have m2 : (Tr40.of (fun k => t.getD k 0), outT d0 fun k => t.getD k 0) ∈ tolF d0 := List.mem_map.2 ⟨_, htr, rfl⟩
    exact dec_use hdec m1 m2 he
  have hmem : outF d0 (ofF d0 t) ∈ outsF d := List.mem_map.2 ⟨_, hself, by show outF d (ofF d (trT _)) = _; rw [eo, Fit.of hr0]⟩
  have hc : ∀ y, (outsF d).contains y = decide (y = outF d0 (ofF d0 t)) := fun y => by
    rw [Bool.eq_iff_iff, List.contains_iff_mem, decide_eq_true_eq]
    exact ⟨hall y, fun e => e ▸ hmem⟩
  unfold allowedF
  have h012 := outF_012 d0 (ofF d0 t)
  generalize outF d0 (ofF d0 t) = o at hc h012 ⊢
  simp only [List.filter, hc]
  rcases h012 with rfl | rfl | rfl <;> rfl

/-! ### The question decides -/
theorem chF_some {P : List Int → Bool} {ds : List Int} : ∀ (f fr : Nat) (now L : List Int), chF P ds f fr now = some L → P L = true ∧ ∃ r, L = now ++ r ∧ r.length = f ∧ r.Sublist (ds.drop fr)
  | 0, fr, now, L, h => by
    rw [chF] at h
    split at h
    · rename_i hp
      injection h with h; subst h
      exact ⟨hp, [], by simp, rfl, List.nil_sublist _⟩
    · cases h
  | f + 1, fr, now, L, h => by
    rw [chF] at h
    obtain ⟨j, hj, h2⟩ := List.exists_of_findSome?_eq_some h
    obtain ⟨j1, j2⟩ := List.mem_range'_1.1 hj
    have hjl : j < ds.length := by omega
    obtain ⟨hp, r, e, hl, hs⟩ := chF_some f (j + 1) _ L h2
    refine ⟨hp, ds[j] :: r, ?_, by simp [hl], ?_⟩
    · rw [e, gd0 hjl, List.append_assoc]; rfl
    · have e2 : ds.drop j = ds[j] :: ds.drop (j + 1) := List.drop_eq_getElem_cons hjl
      have e3 : (ds.drop fr).drop (j - fr) = ds.drop j := by rw [List.drop_drop]; congr 1; omega
      have h5 : (ds[j] :: r).Sublist (ds.drop j) := by rw [e2]; exact hs.cons_cons _
      exact h5.trans (by rw [← e3]; exact List.drop_sublist _ _)
theorem doubts_pw (d : Dv) : (doubtsF d).Pairwise (· < ·) := by
  rw [doubtsF, dK, List.pairwise_map]
  exact (List.pairwise_lt_range.filter _).imp fun h => Int.ofNat_lt.2 h
theorem doubts_in {d : Dv} {x : Int} : x ∈ doubtsF d ↔ ∃ k : Nat, x = k ∧ k < d.m.toNat ∧ 1 < (votesF d k).length := by
  simp only [doubtsF, dK, List.mem_map, List.mem_filter, List.mem_range, dbt_votes, decide_eq_true_eq]
  exact ⟨fun ⟨k, ⟨h1, h2⟩, e⟩ => ⟨k, e.symm, h1, h2⟩, fun ⟨k, e, h1, h2⟩ => ⟨k, ⟨h1, h2⟩, e.symm⟩⟩
theorem dec_doubts {d : Dv} (ho : openF d = 0) : decF (tolF d) (doubtsF d) = true := by
  have hr := fault_right (open_fault ho).1
  have hm := right_m hr
  refine decF_true.2 fun i k hk x y hx hy he => ?_
  obtain ⟨f, hf, rfl⟩ := List.mem_map.1 (List.mem_of_getElem? hx)
  obtain ⟨g, hg, rfl⟩ := List.mem_map.1 (List.mem_of_getElem? hy)
  obtain ⟨f1, f2⟩ := (tru_mem hr).1 hf
  obtain ⟨g1, g2⟩ := (tru_mem hr).1 hg
  have : f = g := by
    funext j
    by_cases hj : j < d.m.toNat
    · have hj40 : j < 40 := by omega
      by_cases hd : ((j : Nat) : Int) ∈ doubtsF d
      · have e : (ansT (Tr40.of f, outT d f) (doubtsF d)).f j = (ansT (Tr40.of g, outT d g) (doubtsF d)).f j := by rw [he]
        rw [ans_f hj40, ans_f hj40, if_pos (by simpa using hd), if_pos (by simpa using hd)] at e
        have e : (Tr40.of f).f j = (Tr40.of g).f j := e
        rwa [Tr40.of_f hj40, Tr40.of_f hj40] at e
      · have hl : (votesF d j).length ≤ 1 := by
          rcases Nat.lt_or_ge 1 (votesF d j).length with h | h
          · exact absurd (doubts_in.2 ⟨j, rfl, hj, h⟩) hd
          · exact h
        have h1 := f1 j hj
        have h2 := g1 j hj
        generalize votesF d j = V at hl h1 h2
        match V, hl, h1, h2 with
        | [a], _, h1, h2 => simp at h1 h2; rw [h1, h2]
        | a :: b :: r, hl, _, _ => simp at hl
    · rw [f2 j (by omega), g2 j (by omega)]
  rw [this]
theorem ask_spec {d : Dv} (ho : openF d = 0) : decF (tolF d) (askF d) = true ∧ (askF d).Sublist (doubtsF d) := by
  unfold askF
  cases h : (List.range (doubtsF d).length).findSome? (askN d) with
  | none => exact ⟨dec_doubts ho, List.Sublist.refl _⟩
  | some L =>
    obtain ⟨n, _, hn⟩ := List.exists_of_findSome?_eq_some h
    obtain ⟨h1, r, e, _, h2⟩ := chF_some _ _ _ _ hn
    rw [List.nil_append] at e
    subst e
    exact ⟨h1, h2⟩
theorem prove_sub {d : Dv} {q : List Int} (ho : openF d = 0) (h : decF (tolF d) q = true) (hs : q.Sublist (doubtsF d)) : proveF d q = true := by
  have h1 : risF q = true := ris_pw.2 ((doubts_pw d).sublist hs)
  have h2 : amongF d q = true := by
    rw [amongF, List.all_eq_true]
    exact fun x hx => List.contains_iff_mem.2 (hs.subset hx)
  rw [proveF, decide_eq_true ho, h1, h2, h]; rfl
end Go.Proofs.YtgpfejgohclheaaGreat

namespace Go.Proofs.YtgpfejgohclheaaGreat
open Go.Pal
set_option maxRecDepth 100000
def booRd : Rd Bool := ⟨fun _ v x => v = .bool x, fun h h' => by rw [h] at h'; cases h'; rfl, fun _ h => h⟩
theorem filter_snoc {α : Type} {l : List α} {i : Nat} (p : α → Bool) (hi : i < l.length) : (l.take (i + 1)).filter p = (l.take i).filter p ++ if p l[i] then [l[i]] else [] := by
  rw [take_snoc hi, List.filter_append]
  cases h : p l[i] <;> simp [h]
theorem told27 : Sound Tryz.prog 36 id (grel (args3 (slRd intE) intRd booRd fun l _ _ => l.length ≤ 1000) fun x v G => SlV intE G v (toldF x.1 x.2.1 x.2.2)) := by
  refine comp36.grel (Tab.nil _) (ok3 _ _ _ _) (fun args G s h => ?_) (fun x v G G' hg h => h.grow hg) (fun args G x h => ?_)
  · obtain ⟨u, v, w, rfl, _⟩ := h; simp
  · obtain ⟨l, m, b⟩ := x
    obtain ⟨u, v, w, rfl, ⟨a, nn, c, rfl, hl, hn⟩, rfl, rfl, hb⟩ := h
    dsimp only at hl hb
    have hlen := hl.len
    (try dsimp only)
    (conv => whnf)
    refine LoopP.of { α := Nat × Nat × List Value, fr := fun x => [(0, .v (.slice a nn c)), (1, .v (I m)), (2, .c (.sb b)), (7, .c (.row 1 x.2.1)), (8, .v (I x.1))], H := fun x => [(1, .row none x.2.1 x.2.2 3 1)], ok := fun x _ => x.1 ≤ l.length ∧ Row intE (([] : List Int) ++ (l.take x.1).filter (fun x => decide (x < m))) x.2.1 x.2.2, m := fun x => l.length - x.1 }
      ((0, 0, []) : Nat × Nat × List Value) (HeadP.of [] ⟨rfl, rfl, rfl, rfl, rfl, trivial⟩ ⟨rfl, trivial⟩) ⟨Nat.zero_le _, by simpa using (Row.nil : Row intE [] 0 [])⟩ (fun _ => ⟨rfl, rfl⟩) (fun x G1 hg1 hx => W.mk ?_)
    obtain ⟨i, n, vs⟩ := x
    obtain ⟨hi, hrow⟩ := hx
    dsimp only at hi hrow
    have hl1 := SlR.grow (G := G) (G' := G1) (fun _ _ h => h) hl hg1
    have hrn := hrow.n
    have hfl := List.length_filter_le (fun x => decide (x < m)) (l.take i)
    simp only [List.length_append, List.length_nil, List.length_cons] at hrn
    rw [List.length_take] at hfl
    dsimp only
    (conv => whnf)
    refine IteP.mk (fun hlt => W.mk ?_) (fun hge => W.mk ?_) <;> (conv => whnf)
    · have hlt : i < l.length := by omega
      have hc := (hl1).el hlt
      have hsn := filter_snoc (fun x => decide (x < m)) hlt
      generalize l[i] = y at hc hsn
      repeat' (first | (refine OblP.mk ?_ (W.mk ?_); (first | trivial | omega | (simp only [inR]; omega) | exact Nat.le_of_ble_eq_true (by rfl) | exact SlR.some (by assumption) (by omega)); (conv => whnf)) | (first | (refine RdP.at (by assumption) (by rfl) (W.mk ?_); (conv => whnf)) | (refine RdP.sub (by assumption) (by rfl) (W.mk ?_); (conv => whnf)) | (refine RdP.sub2 (by assumption) (by rfl) (W.mk ?_); (conv => whnf)) | (refine RdP.sub3 (by assumption) (by rfl) (W.mk ?_); (conv => whnf))))
      refine IteP.mk (fun hy => W.mk ?_) (fun hy => W.mk ?_) <;> (conv => whnf)
      · repeat' (first | (refine OblP.mk ?_ (W.mk ?_); (first | trivial | omega | (simp only [inR]; omega) | exact Nat.le_of_ble_eq_true (by rfl) | exact SlR.some (by assumption) (by omega)); (conv => whnf)) | (first | (refine RdP.at (by assumption) (by rfl) (W.mk ?_); (conv => whnf)) | (refine RdP.sub (by assumption) (by rfl) (W.mk ?_); (conv => whnf)) | (refine RdP.sub2 (by assumption) (by rfl) (W.mk ?_); (conv => whnf)) | (refine RdP.sub3 (by assumption) (by rfl) (W.mk ?_); (conv => whnf))))
        rw [if_pos (by simpa using hy)] at hsn
        refine RoundP.of (i + 1, n + 1, vs ++ [I y]) (HeadP.of [(1, some 20)] ⟨rfl, rfl, rfl, rfl, rfl, trivial⟩ ⟨rfl, trivial⟩) ⟨hlt, ?_⟩ (by simp only; omega)
        rw [hsn, ← List.append_assoc]
        exact hrow.snoc y
      · repeat' (first | (refine OblP.mk ?_ (W.mk ?_); (first | trivial | omega | (simp only [inR]; omega) | exact Nat.le_of_ble_eq_true (by rfl) | exact SlR.some (by assumption) (by omega)); (conv => whnf)) | (first | (refine RdP.at (by assumption) (by rfl) (W.mk ?_); (conv => whnf)) | (refine RdP.sub (by assumption) (by rfl) (W.mk ?_); (conv => whnf)) | (refine RdP.sub2 (by assumption) (by rfl) (W.mk ?_); (conv => whnf)) | (refine RdP.sub3 (by assumption) (by rfl) (W.mk ?_); (conv => whnf))))
        rw [if_neg (by simpa using hy), List.append_nil] at hsn
        refine RoundP.of (i + 1, n, vs) (HeadP.of [] ⟨rfl, rfl, rfl, rfl, rfl, trivial⟩ ⟨rfl, trivial⟩) ⟨hlt, ?_⟩ (by simp only; omega)
        rw [hsn]
        exact hrow
    · have : i = l.length := by omega
      subst this
      simp only [List.take_length] at hrow hfl hrn
      refine ForkP.mk (fun hb => W.mk ?_) (fun hb => W.mk ?_) <;> (conv => whnf)
      · repeat' (first | (refine OblP.mk ?_ (W.mk ?_); (first | trivial | omega | (simp only [inR]; omega) | exact Nat.le_of_ble_eq_true (by rfl) | exact SlR.some (by assumption) (by omega)); (conv => whnf)) | (first | (refine RdP.at (by assumption) (by rfl) (W.mk ?_); (conv => whnf)) | (refine RdP.sub (by assumption) (by rfl) (W.mk ?_); (conv => whnf)) | (refine RdP.sub2 (by assumption) (by rfl) (W.mk ?_); (conv => whnf)) | (refine RdP.sub3 (by assumption) (by rfl) (W.mk ?_); (conv => whnf))))
        have hrow1 : Row intE (l.filter (fun x => decide (x < m)) ++ [m]) (n + 1) (vs ++ [I m]) := hrow.snoc m
        refine LoopP.of { α := Nat × Nat × List Value, fr := fun x => [(0, .v (.slice a nn c)), (1, .v (I m)), (2, .c (.sb b)), (7, .c (.row 1 x.2.1)), (9, .v (I x.1))], H := fun x => [(1, .row none x.2.1 x.2.2 3 1)], ok := fun x _ => x.1 ≤ l.length ∧ Row intE ((l.filter (fun x => decide (x < m)) ++ [m]) ++ (l.take x.1).filter (fun x => decide (m < x))) x.2.1 x.2.2, m := fun x => l.length - x.1 }
          ((0, n + 1, vs ++ [I m]) : Nat × Nat × List Value) (HeadP.of [(1, some 29)] ⟨rfl, rfl, rfl, rfl, rfl, trivial⟩ ⟨rfl, trivial⟩) ⟨Nat.zero_le _, by simpa using hrow1⟩ (fun _ => ⟨rfl, rfl⟩) (fun x G2 hg2 hx => W.mk ?_)
        obtain ⟨i, n, vs⟩ := x
        obtain ⟨hi, hrow⟩ := hx
        dsimp only at hi hrow
        have hl2 := SlR.grow (G := G) (G' := G2) (fun _ _ h => h) hl (hg1.trans hg2)
        have hrn := hrow.n
        have hfl := List.length_filter_le (fun x => decide (m < x)) (l.take i)
        simp only [List.length_append, List.length_nil, List.length_cons] at hrn
        rw [List.length_take] at hfl
        dsimp only
        (conv => whnf)
        refine IteP.mk (fun hlt => W.mk ?_) (fun hge => W.mk ?_) <;> (conv => whnf)
        · have hlt : i < l.length := by omega
          have hc := (hl2).el hlt
          have hsn := filter_snoc (fun x => decide (m < x)) hlt
          generalize l[i] = y at hc hsn
          repeat' (first | (refine OblP.mk ?_ (W.mk ?_); (first | trivial | omega | (simp only [inR]; omega) | exact Nat.le_of_ble_eq_true (by rfl) | exact SlR.some (by assumption) (by omega)); (conv => whnf)) | (first | (refine RdP.at (by assumption) (by rfl) (W.mk ?_); (conv => whnf)) | (refine RdP.sub (by assumption) (by rfl) (W.mk ?_); (conv => whnf)) | (refine RdP.sub2 (by assumption) (by rfl) (W.mk ?_); (conv => whnf)) | (refine RdP.sub3 (by assumption) (by rfl) (W.mk ?_); (conv => whnf))))
          refine IteP.mk (fun hy => W.mk ?_) (fun hy => W.mk ?_) <;> (conv => whnf)
          · repeat' (first | (refine OblP.mk ?_ (W.mk ?_); (first | trivial | omega | (simp only [inR]; omega) | exact Nat.le_of_ble_eq_true (by rfl) | exact SlR.some (by assumption) (by omega)); (conv => whnf)) | (first | (refine RdP.at (by assumption) (by rfl) (W.mk ?_); (conv => whnf)) | (refine RdP.sub (by assumption) (by rfl) (W.mk ?_); (conv => whnf)) | (refine RdP.sub2 (by assumption) (by rfl) (W.mk ?_); (conv => whnf)) | (refine RdP.sub3 (by assumption) (by rfl) (W.mk ?_); (conv => whnf))))
            rw [if_pos (by simpa using hy)] at hsn
            refine RoundP.of (i + 1, n + 1, vs ++ [I y]) (HeadP.of [(1, some 48)] ⟨rfl, rfl, rfl, rfl, rfl, trivial⟩ ⟨rfl, trivial⟩) ⟨hlt, ?_⟩ (by simp only; omega)
            rw [hsn, ← List.append_assoc]
            exact hrow.snoc y
          · repeat' (first | (refine OblP.mk ?_ (W.mk ?_); (first | trivial | omega | (simp only [inR]; omega) | exact Nat.le_of_ble_eq_true (by rfl) | exact SlR.some (by assumption) (by omega)); (conv => whnf)) | (first | (refine RdP.at (by assumption) (by rfl) (W.mk ?_); (conv => whnf)) | (refine RdP.sub (by assumption) (by rfl) (W.mk ?_); (conv => whnf)) | (refine RdP.sub2 (by assumption) (by rfl) (W.mk ?_); (conv => whnf)) | (refine RdP.sub3 (by assumption) (by rfl) (W.mk ?_); (conv => whnf))))
            rw [if_neg (by simpa using hy), List.append_nil] at hsn
            refine RoundP.of (i + 1, n, vs) (HeadP.of [] ⟨rfl, rfl, rfl, rfl, rfl, trivial⟩ ⟨rfl, trivial⟩) ⟨hlt, ?_⟩ (by simp only; omega)
            rw [hsn]
            exact hrow
        · have : i = l.length := by omega
          subst this
          simp only [List.take_length] at hrow hfl hrn
          refine PubP.mk (fun a1 c1 G4 hg4 hp => W.mk ?_)
          (conv => whnf)
          refine FinP.mk ?_
          have hrow2 : Row intE (toldF l m b) n vs := by subst hb; exact hrow
          exact hrow2.pub hp (by omega)
      · repeat' (first | (refine OblP.mk ?_ (W.mk ?_); (first | trivial | omega | (simp only [inR]; omega) | exact Nat.le_of_ble_eq_true (by rfl) | exact SlR.some (by assumption) (by omega)); (conv => whnf)) | (first | (refine RdP.at (by assumption) (by rfl) (W.mk ?_); (conv => whnf)) | (refine RdP.sub (by assumption) (by rfl) (W.mk ?_); (conv => whnf)) | (refine RdP.sub2 (by assumption) (by rfl) (W.mk ?_); (conv => whnf)) | (refine RdP.sub3 (by assumption) (by rfl) (W.mk ?_); (conv => whnf))))
        have hrow1 : Row intE (l.filter (fun x => decide (x < m)) ++ []) n vs := by rw [List.append_nil]; exact hrow
        refine LoopP.of { α := Nat × Nat × List Value, fr := fun x => [(0, .v (.slice a nn c)), (1, .v (I m)), (2, .c (.sb b)), (7, .c (.row 1 x.2.1)), (9, .v (I x.1))], H := fun x => [(1, .row none x.2.1 x.2.2 3 1)], ok := fun x _ => x.1 ≤ l.length ∧ Row intE ((l.filter (fun x => decide (x < m)) ++ []) ++ (l.take x.1).filter (fun x => decide (m < x))) x.2.1 x.2.2, m := fun x => l.length - x.1 }
          ((0, n, vs) : Nat × Nat × List Value) (HeadP.of [] ⟨rfl, rfl, rfl, rfl, rfl, trivial⟩ ⟨rfl, trivial⟩) ⟨Nat.zero_le _, by simpa using hrow1⟩ (fun _ => ⟨rfl, rfl⟩) (fun x G2 hg2 hx => W.mk ?_)
        obtain ⟨i, n, vs⟩ := x
        obtain ⟨hi, hrow⟩ := hx
        dsimp only at hi hrow
        have hl2 := SlR.grow (G := G) (G' := G2) (fun _ _ h => h) hl (hg1.trans hg2)
        have hrn := hrow.n
        have hfl := List.length_filter_le (fun x => decide (m < x)) (l.take i)
        simp only [List.length_append, List.length_nil, List.length_cons] at hrn
        rw [List.length_take] at hfl
        dsimp only
        (conv => whnf)
        refine IteP.mk (fun hlt => W.mk ?_) (fun hge => W.mk ?_) <;> (conv => whnf)
        · have hlt : i < l.length := by omega
          have hc := (hl2).el hlt
          have hsn := filter_snoc (fun x => decide (m < x)) hlt
          generalize l[i] = y at hc hsn
          repeat' (first | (refine OblP.mk ?_ (W.mk ?_); (first | trivial | omega | (simp only [inR]; omega) | exact Nat.le_of_ble_eq_true (by rfl) | exact SlR.some (by assumption) (by omega)); (conv => whnf)) | (first | (refine RdP.at (by assumption) (by rfl) (W.mk ?_); (conv => whnf)) | (refine RdP.sub (by assumption) (by rfl) (W.mk ?_); (conv => whnf)) | (refine RdP.sub2 (by assumption) (by rfl) (W.mk ?_); (conv => whnf)) | (refine RdP.sub3 (by assumption) (by rfl) (W.mk ?_); (conv => whnf))))
          refine IteP.mk (fun hy => W.mk ?_) (fun hy => W.mk ?_) <;> (conv => whnf)
          · repeat' (first | (refine OblP.mk ?_ (W.mk ?_); (first | trivial | omega | (simp only [inR]; omega) | exact Nat.le_of_ble_eq_true (by rfl) | exact SlR.some (by assumption) (by omega)); (conv => whnf)) | (first | (refine RdP.at (by assumption) (by rfl) (W.mk ?_); (conv => whnf)) | (refine RdP.sub (by assumption) (by rfl) (W.mk ?_); (conv => whnf)) | (refine RdP.sub2 (by assumption) (by rfl) (W.mk ?_); (conv => whnf)) | (refine RdP.sub3 (by assumption) (by rfl) (W.mk ?_); (conv => whnf))))
            rw [if_pos (by simpa using hy)] at hsn
            refine RoundP.of (i + 1, n + 1, vs ++ [I y]) (HeadP.of [(1, some 48)] ⟨rfl, rfl, rfl, rfl, rfl, trivial⟩ ⟨rfl, trivial⟩) ⟨hlt, ?_⟩ (by simp only; omega)
            rw [hsn, ← List.append_assoc]
            exact hrow.snoc y
          · repeat' (first | (refine OblP.mk ?_ (W.mk ?_); (first | trivial | omega | (simp only [inR]; omega) | exact Nat.le_of_ble_eq_true (by rfl) | exact SlR.some (by assumption) (by omega)); (conv => whnf)) | (first | (refine RdP.at (by assumption) (by rfl) (W.mk ?_); (conv => whnf)) | (refine RdP.sub (by assumption) (by rfl) (W.mk ?_); (conv => whnf)) | (refine RdP.sub2 (by assumption) (by rfl) (W.mk ?_); (conv => whnf)) | (refine RdP.sub3 (by assumption) (by rfl) (W.mk ?_); (conv => whnf))))
            rw [if_neg (by simpa using hy), List.append_nil] at hsn
            refine RoundP.of (i + 1, n, vs) (HeadP.of [] ⟨rfl, rfl, rfl, rfl, rfl, trivial⟩ ⟨rfl, trivial⟩) ⟨hlt, ?_⟩ (by simp only; omega)
            rw [hsn]
            exact hrow
        · have : i = l.length := by omega
          subst this
          simp only [List.take_length] at hrow hfl hrn
          refine PubP.mk (fun a1 c1 G4 hg4 hp => W.mk ?_)
          (conv => whnf)
          refine FinP.mk ?_
          have hrow2 : Row intE (toldF l m b) n vs := by subst hb; exact hrow
          exact hrow2.pub hp (by omega)
end Go.Proofs.YtgpfejgohclheaaGreat

namespace Go.Proofs.YtgpfejgohclheaaGreat
open Go.Pal
set_option maxRecDepth 100000
abbrev sV (x : Hdr) : Value := .slice x.1 x.2.1 x.2.2
theorem ask_len {d : Dv} (ho : openF d = 0) : (askF d).length ≤ (doubtsF d).length := (ask_spec ho).2.length_le
theorem doubts_l40 {d : Dv} (hm : d.m ≤ 40) : (doubtsF d).length ≤ 40 := Nat.le_trans (dK_len _ _) (by omega)
def tabAn : Tab Tryz.prog := Tab.cons 30 _ ready30 body30 (Tab.cons 11 _ wakes10 body11 (Tab.cons 13 _ div12 body13 (Tab.cons 31 _ chosen31 body31 (Tab.cons 23 _ count34 body23 (Tab.cons 32 _ allowed23 body32 (Tab.cons 12 _ ask24 body12 (Tab.cons 34 _ doubts11 body34 (Tab.cons 14 _ prove36 body14 (Tab.cons 15 _ list22 body15 (Tab.cons 35 _ in46 body35 (Tab.cons 36 _ told27 body36 (Tab.nil _))))))))))))
set_option maxHeartbeats 1000000
theorem law8z : Sound Tryz.prog 8 id (gsca (args2 duRd u32Rd fun d w => rul d ∧ 0 ≤ w ∧ w ≤ 4294967295) fun _ v => v = .bool true) := by
  refine comp8.gsca tabAn (fun args G s h => ?_) (fun args G x h => ?_)
  · obtain ⟨v, w, rfl, _⟩ := h; simp
  · obtain ⟨d, p⟩ := x
    obtain ⟨u, v, rfl, ⟨w0, w1, w2, w3, w4, w5, rfl, hd⟩, rfl, hr, hp0, hp1⟩ := h
    dsimp only at hd hr hp0 hp1
    have hdv : DuV G _ d := ⟨_, _, _, _, _, _, rfl, hd⟩
    obtain ⟨x0, y0, z0, rfl, la0⟩ := id hd.a0
    obtain ⟨x1, y1, z1, rfl, la1⟩ := id hd.a1
    obtain ⟨x2, y2, z2, rfl, ln0⟩ := id hd.n0
    obtain ⟨x3, y3, z3, rfl, ln1⟩ := id hd.n1
    obtain ⟨x4, y4, z4, rfl, lps⟩ := id hd.ps
    obtain ⟨x5, y5, z5, rfl, lqs⟩ := id hd.qs
    dsimp only
    (conv => whnf)
    refine ScaP.g (ok1 duRd fun _ => True) (x := d) ⟨_, rfl, hdv, trivial⟩ (fun v hv => W.mk ?_)
    subst hv
    (conv => whnf)
    refine ForkP.mk (fun hfw => W.mk ?_) (fun hfw => W.mk ?_) <;> (conv => whnf)
    rotate_left
    · refine ScaP.g okU (x := ()) rfl (fun v hv => W.mk ?_)
      subst hv
      (conv => whnf)
      refine ForkP.mk (fun _ => W.mk ?_) (fun h => by cases h)
      (conv => whnf)
      exact FinP.mk rfl
    obtain ⟨hfw, hop, hfa⟩ := ready_fault hfw
    have hdv := hdv.v hfw
    have hg0 := Grow.refl G
    refine RelP.g (ok2 dvRd u32Rd fun d w => faultF d = 0 ∧ 0 ≤ w ∧ w ≤ 4294967295) (x := (d, p)) ⟨_, _, rfl, hdv, rfl, hfa, hp0, hp1⟩ (Grow.refl _) (fun v G1 h1 hq => W.mk ?_)
    have hg1 := hg0.trans h1
    obtain ⟨t, ht, at1, nt1, ct1, rfl, ht1, ht2⟩ := hq
    dsimp only at ht ht1
    have hm40 := right_m (fault_right hfa)
    have hal := ask_len hop
    have hdl := doubts_l40 hm40.2
    obtain ⟨hdec, hsub⟩ := ask_spec hop
    have hdd := dec_doubts hop
    have hqm : ∀ x ∈ askF d, 0 ≤ x ∧ x < d.m := fun x hx => by
      obtain ⟨k, rfl, hk, _⟩ := doubts_in.1 (hsub.subset hx)
      omega
    have hpv1 := prove_sub hop hdec hsub
    have hpv2 := prove_sub hop hdd (List.Sublist.refl _)
    (conv => whnf)
    refine RelP.g (ok1 dvRd fun d => fewF d = true) (x := d) ⟨_, rfl, dvRd.grow hg1 hdv, hfw⟩ (Grow.refl _) (fun v G2 h2 hq => W.mk ?_)
    have hg2 := hg1.trans h2
    have hd2 := hq
    obtain ⟨_, _, _, _, _, _, rfl, hq⟩ := hq
    obtain ⟨xx0, yy0, zz0, rfl, _, _⟩ := id hq.a0
    obtain ⟨xx1, yy1, zz1, rfl, _, _⟩ := id hq.a1
    obtain ⟨xx2, yy2, zz2, rfl, _, _⟩ := id hq.n0
    obtain ⟨xx3, yy3, zz3, rfl, _, _⟩ := id hq.n1
    obtain ⟨xx4, yy4, zz4, rfl, _, _⟩ := id hq.ps
    obtain ⟨xx5, yy5, zz5, rfl, _, _⟩ := id hq.qs
    (conv => whnf)
    refine RelP.g (ok1 dvRd rul) (x := d) ⟨_, rfl, hd2, hr⟩ (Grow.refl _) (fun v G3 h3 hq => W.mk ?_)
    obtain ⟨w, rfl, aq, nq, cq, rfl, hq3, hqn⟩ := hq
    have hg3 := hg2.trans h3
    rw [if_pos hop] at hq3
    rw [hop]
    (conv => whnf)
    refine RelP.g (ok1 dvRd fun d => fewF d = true) (x := d) ⟨_, rfl, dvRd.grow hg3 hdv, hfw⟩ (Grow.refl _) (fun v G4 h4 hq => W.mk ?_)
    have hg4 := hg3.trans h4
    have hd4 := hq
    obtain ⟨_, _, _, _, _, _, rfl, hq⟩ := hq
    obtain ⟨xx0, yy0, zz0, rfl, _, _⟩ := id hq.a0
    obtain ⟨xx1, yy1, zz1, rfl, _, _⟩ := id hq.a1
    obtain ⟨xx2, yy2, zz2, rfl, _, _⟩ := id hq.n0
    obtain ⟨xx3, yy3, zz3, rfl, _, _⟩ := id hq.n1
    obtain ⟨xx4, yy4, zz4, rfl, _, _⟩ := id hq.ps
    obtain ⟨xx5, yy5, zz5, rfl, _, _⟩ := id hq.qs
    (conv => whnf)
    refine RelP.g (ok1 dvRd rul) (x := d) ⟨_, rfl, hd4, hr⟩ (Grow.refl _) (fun v G5 h5 hq => W.mk ?_)
    obtain ⟨w, rfl, ad, nd, cd, rfl, hq5, hdn⟩ := hq
    have hg5 := hg4.trans h5
    rw [if_pos hfa] at hq5
    rw [hfa]
    (conv => whnf)
    refine RelP.g (ok1 dvRd fun d => fewF d = true) (x := d) ⟨_, rfl, dvRd.grow hg5 hdv, hfw⟩ (Grow.refl _) (fun v G6 h6 hq => W.mk ?_)
    have hg6 := hg5.trans h6
    have hd6 := hq
    obtain ⟨_, _, _, _, _, _, rfl, hq⟩ := hq
    obtain ⟨xx0, yy0, zz0, rfl, _, _⟩ := id hq.a0
    obtain ⟨xx1, yy1, zz1, rfl, _, _⟩ := id hq.a1
    obtain ⟨xx2, yy2, zz2, rfl, _, _⟩ := id hq.n0
    obtain ⟨xx3, yy3, zz3, rfl, _, _⟩ := id hq.n1
    obtain ⟨xx4, yy4, zz4, rfl, _, _⟩ := id hq.ps
    obtain ⟨xx5, yy5, zz5, rfl, _, _⟩ := id hq.qs
    (conv => whnf)
    have ht6l := SlR.grow (G := G1) (G' := G6) (fun _ _ h => h) ht1 (((h2.trans h3).trans (h4.trans h5)).trans h6)
    have htl := ht1.len
    refine OblP.mk (fun h => (ht6l).some h) (W.mk ?_); (conv => whnf)
    refine RdP.at (ht6l).all.1 (ht6l).all.2.1 (W.mk ?_); (conv => whnf)
    refine OblP.mk (ht6l).all.2.2 (W.mk ?_); (conv => whnf)
    refine OblP.mk rfl (W.mk ?_); (conv => whnf)
    refine OblP.mk (by omega) (W.mk ?_); (conv => whnf)
    refine PubP.mk (fun a7 c7 G7 h7 hp => W.mk ?_)
    have hg7 := hg6.trans h7
    have hp7 : SlV u8E G7 (.slice a7 (0 + nt1) c7) t := by rw [Nat.zero_add]; exact (Row.of_all t (ht6l).len).pub (by simpa using hp) (by omega)
    (conv => whnf)
    refine ScaP.g (ok2 dvRd (slRd u8E) fun d _ => rul d) (x := (d, t)) ⟨_, _, rfl, dvRd.grow h7 hd6, hp7, hr⟩ (fun v hv => W.mk ?_)
    have hv := hv.trans (cntV_ok (ht.cnt hfa))
    subst hv
    have hql := hq3.len
    have hdl2 := hq5.len
    have hqv : SlV intE G7 (.slice aq nq cq) (askF d) := SlV.grow (((h4.trans h5).trans h6).trans h7) ⟨_, _, _, rfl, hq3, hqn⟩
    have hdvv : SlV intE G7 (.slice ad nd cd) (doubtsF d) := SlV.grow (h6.trans h7) ⟨_, _, _, rfl, hq5, hdn⟩
    dsimp only
    (conv => whnf)
    repeat' (refine IteP.mk (fun _ => W.mk ?_) (fun _ => W.mk ?_) <;> first | (exfalso; omega) | (conv => whnf))
    refine RelP.g (ok1 dvRd fun d => fewF d = true) (x := d) ⟨_, rfl, dvRd.grow hg7 hdv, hfw⟩ (Grow.refl _) (fun v G8 h8 hq => W.mk ?_)
    have hg8 := hg7.trans h8
    have hd8 := hq
    obtain ⟨_, _, _, _, _, _, rfl, hq⟩ := hq
    obtain ⟨xx0, yy0, zz0, rfl, _, _⟩ := id hq.a0
    obtain ⟨xx1, yy1, zz1, rfl, _, _⟩ := id hq.a1
    obtain ⟨xx2, yy2, zz2, rfl, _, _⟩ := id hq.n0
    obtain ⟨xx3, yy3, zz3, rfl, _, _⟩ := id hq.n1
    obtain ⟨xx4, yy4, zz4, rfl, _, _⟩ := id hq.ps
    obtain ⟨xx5, yy5, zz5, rfl, _, _⟩ := id hq.qs
    (conv => whnf)
    refine RelP.g (ok1 (slRd intE) fun l => l.length ≤ 8796093022207) (x := askF d) ⟨_, rfl, hqv.grow h8, by show (askF d).length ≤ _; omega⟩ (Grow.refl _) (fun v G9 h9 hq => W.mk ?_)
    have hg9 := hg8.trans h9
    have hq9 := hq
    obtain ⟨a9, n9, c9, rfl, _, _⟩ := hq
    (conv => whnf)
    refine ScaP.g (ok2 dvRd (slRd intE) fun d _ => rul d) (x := (d, askF d)) ⟨_, _, rfl, dvRd.grow h9 hd8, hq9, hr⟩ (fun v hv => W.mk ?_)
    have hv := hv.trans (congrArg Value.bool hpv1)
    subst hv
    (conv => whnf)
    refine ForkP.mk (fun _ => W.mk ?_) (fun h => by cases h)
    (conv => whnf)
    refine RelP.g (ok1 dvRd fun d => fewF d = true) (x := d) ⟨_, rfl, dvRd.grow hg9 hdv, hfw⟩ (Grow.refl _) (fun v G10 h10 hq => W.mk ?_)
    have hg10 := hg9.trans h10
    have hd10 := hq
    obtain ⟨_, _, _, _, _, _, rfl, hq⟩ := hq
    obtain ⟨xx0, yy0, zz0, rfl, _, _⟩ := id hq.a0
    obtain ⟨xx1, yy1, zz1, rfl, _, _⟩ := id hq.a1
    obtain ⟨xx2, yy2, zz2, rfl, _, _⟩ := id hq.n0
    obtain ⟨xx3, yy3, zz3, rfl, _, _⟩ := id hq.n1
    obtain ⟨xx4, yy4, zz4, rfl, _, _⟩ := id hq.ps
    obtain ⟨xx5, yy5, zz5, rfl, _, _⟩ := id hq.qs
    (conv => whnf)
    refine RelP.g (ok1 (slRd intE) fun l => l.length ≤ 8796093022207) (x := doubtsF d) ⟨_, rfl, hdvv.grow ((h8.trans h9).trans h10), by show (doubtsF d).length ≤ _; omega⟩ (Grow.refl _) (fun v G11 h11 hq => W.mk ?_)
    have hg11 := hg10.trans h11
    have hq11 := hq
    obtain ⟨a11, n11, c11, rfl, _, _⟩ := hq
    (conv => whnf)
    refine ScaP.g (ok2 dvRd (slRd intE) fun d _ => rul d) (x := (d, doubtsF d)) ⟨_, _, rfl, dvRd.grow h11 hd10, hq11, hr⟩ (fun v hv => W.mk ?_)
    have hv := hv.trans (congrArg Value.bool hpv2)
    subst hv
    (conv => whnf)
    refine ForkP.mk (fun _ => W.mk ?_) (fun h => by cases h)
    (conv => whnf)
    refine RelP.g (ok1 dvRd fun d => fewF d = true) (x := d) ⟨_, rfl, dvRd.grow hg11 hdv, hfw⟩ (Grow.refl _) (fun v G12 h12 hq => W.mk ?_)
    have hg12 := hg11.trans h12
    obtain ⟨_, _, _, _, _, _, rfl, hq⟩ := hq
    obtain ⟨xx0, yy0, zz0, rfl, la0', ya0'⟩ := id hq.a0
    obtain ⟨xx1, yy1, zz1, rfl, la1', ya1'⟩ := id hq.a1
    obtain ⟨xx2, yy2, zz2, rfl, ln0', yn0'⟩ := id hq.n0
    obtain ⟨xx3, yy3, zz3, rfl, ln1', yn1'⟩ := id hq.n1
    obtain ⟨xx4, yy4, zz4, rfl, lps', yps'⟩ := id hq.ps
    obtain ⟨xx5, yy5, zz5, rfl, lqs', yqs'⟩ := id hq.qs
    (conv => whnf)
    have hc3 : Grow G3 G12 := (((((((h4.trans h5).trans h6).trans h7).trans h8).trans h9).trans (h10.trans h11)).trans h12)
    have hq12 := SlR.grow (G := G3) (G' := G12) (fun _ _ h => h) hq3 hc3
    have ht12 := SlR.grow (G := G1) (G' := G12) (fun _ _ h => h) ht1 ((h2.trans h3).trans hc3)
    refine LoopP.of { α := Nat × Hdr × Hdr × Hdr × Hdr × Dv, fr := fun x => [(2, .c (.ptr 0 0)), (5, .v (.slice at1 nt1 ct1)), (6, .v (.slice aq nq cq)), (11, .v (U (outF d (ofF d t)))), (13, .c (.ptr 77 0)), (14, .v (I x.1))], H := fun x => [(0, .cells .anon (DVC d x0 x1 x2 x3 x4 x5 y0 z0 y1 z1 y2 z2 y3 z3 y4 z4 y5 z5) 27), (77, .cells .anon [.val (I d.m), .val (sV x.2.1), .val (sV x.2.2.1), .val (sV x.2.2.2.1), .val (sV x.2.2.2.2.1), .val (.slice xx4 yy4 zz4), .val (.slice xx5 yy5 zz5), .val (U d.rule), .val (I d.need), .val (I d.quorum), .val (U d.tie)] 36)], ok := fun x G => x.1 ≤ (askF d).length ∧ Ansd t d x.2.2.2.2.2 ((askF d).take x.1) ∧ SlV intE G (sV x.2.1) x.2.2.2.2.2.a0 ∧ SlV intE G (sV x.2.2.1) x.2.2.2.2.2.a1 ∧ SlV intE G (sV x.2.2.2.1) x.2.2.2.2.2.n0 ∧ SlV intE G (sV x.2.2.2.2.1) x.2.2.2.2.2.n1, m := fun x => (askF d).length - x.1 }
      (0, (xx0, yy0, zz0), (xx1, yy1, zz1), (xx2, yy2, zz2), (xx3, yy3, zz3), d) (HeadP.of [] ⟨rfl, rfl, rfl, rfl, rfl, rfl, trivial⟩ ⟨rfl, rfl, trivial⟩)
      ⟨Nat.zero_le _, Ansd.nil hop, ⟨_, _, _, rfl, la0', ya0'⟩, ⟨_, _, _, rfl, la1', ya1'⟩, ⟨_, _, _, rfl, ln0', yn0'⟩, ⟨_, _, _, rfl, ln1', yn1'⟩⟩ (fun _ => ⟨rfl, rfl⟩) (fun x G13 h13 hx => W.mk ?_)
    obtain ⟨i, v0, v1, v2, v3, dm, da0, da1, dn0, dn1, dps, dqs, dru, dne, dqu, dti⟩ := x
    obtain ⟨hi, hA, k0, k1, k2, k3⟩ := hx
    dsimp only at hi hA k0 k1 k2 k3
    have hsm := hA.same
    simp only [Dv.mk.injEq, true_and, and_true] at hsm
    obtain ⟨rfl, rfl, rfl, rfl, rfl, rfl, rfl⟩ := hsm
    have hrx := fault_right (open_fault hA.op).1
    have hq13 := SlR.grow (G := G12) (G' := G13) (fun _ _ h => h) hq12 h13
    have ht13 := SlR.grow (G := G12) (G' := G13) (fun _ _ h => h) ht12 h13
    dsimp only
    (conv => whnf)
    refine IteP.mk (fun hlt => W.mk ?_) (fun hge => W.mk ?_) <;> (conv => whnf)
    · have hlt : i < (askF d).length := by omega
      have hcq := hq13.el hlt
      have hqe := hqm _ (List.getElem_mem hlt)
      have hsn : (askF d).take (i + 1) = (askF d).take i ++ [(askF d)[i]] := take_snoc hlt
      generalize (askF d)[i] = e at hcq hqe hsn
      repeat' (first | (refine OblP.mk ?_ (W.mk ?_); (first | trivial | omega | (simp only [inR]; omega) | exact Nat.le_of_ble_eq_true (by rfl) | exact SlR.some (by assumption) (by omega)); (conv => whnf)) | (first | (refine RdP.at (by assumption) (by rfl) (W.mk ?_); (conv => whnf)) | (refine RdP.sub (by assumption) (by rfl) (W.mk ?_); (conv => whnf)) | (refine RdP.sub2 (by assumption) (by rfl) (W.mk ?_); (conv => whnf)) | (refine RdP.sub3 (by assumption) (by rfl) (W.mk ?_); (conv => whnf))))
      refine OblP.mk ⟨_, _, _, rfl⟩ (W.mk ?_)
      (conv => whnf)
      have hin : inF e 0 (d.m - 1) = true := inF_iff.2 (by omega)
      refine ForkP.mk (fun _ => W.mk ?_) (fun h => absurd (hin.symm.trans h) (by decide))
      (conv => whnf)
      have hte : e.toNat < t.length := by have := ht.1; omega
      have hct := ht13.el hte
      have htv := ht.vote _ (List.getElem_mem hte)
      have htg := gd0 hte
      obtain ⟨l0, l1, l2, l3⟩ := right_lists hrx
      have l0 := list_len l0
      have l1 := list_len l1
      have l2 := list_len l2
      have l3 := list_len l3
      dsimp only at l0 l1 l2 l3
      refine LoopP.of { α := Nat × Hdr × Hdr × Hdr × Hdr, fr := fun x => [(2, .c (.ptr 0 0)), (5, .v (.slice at1 nt1 ct1)), (6, .v (.slice aq nq cq)), (11, .v (U (outF d (ofF d t)))), (13, .c (.ptr 77 0)), (14, .v (I i)), (15, .v (I x.1))], H := fun x => [(0, .cells .anon (DVC d x0 x1 x2 x3 x4 x5 y0 z0 y1 z1 y2 z2 y3 z3 y4 z4 y5 z5) 27), (77, .cells .anon [.val (I d.m), .val (sV x.2.1), .val (sV x.2.2.1), .val (sV x.2.2.2.1), .val (sV x.2.2.2.2), .val (.slice xx4 yy4 zz4), .val (.slice xx5 yy5 zz5), .val (U d.rule), .val (I d.need), .val (I d.quorum), .val (U d.tie)] 36)], ok := fun x G => x.1 ≤ 2 ∧ SlV intE G (sV x.2.1) (if 0 < x.1 then toldF da0 e (decide (t[e.toNat] = 1)) else da0) ∧ SlV intE G (sV x.2.2.1) (if 1 < x.1 then toldF da1 e (decide (t[e.toNat] = 1)) else da1) ∧ SlV intE G (sV x.2.2.2.1) (if 0 < x.1 then toldF dn0 e (decide (t[e.toNat] = 2)) else dn0) ∧ SlV intE G (sV x.2.2.2.2) (if 1 < x.1 then toldF dn1 e (decide (t[e.toNat] = 2)) else dn1), m := fun x => 2 - x.1 }
        (0, v0, v1, v2, v3) (HeadP.of [] ⟨rfl, rfl, rfl, rfl, rfl, rfl, rfl, trivial⟩ ⟨rfl, rfl, trivial⟩) ⟨Nat.zero_le _, k0, k1, k2, k3⟩ (fun _ => ⟨rfl, rfl⟩) (fun x G14 h14 hx => W.mk ?_)
      obtain ⟨k, u0, u1, u2, u3⟩ := x
      obtain ⟨hk, j0, j1, j2, j3⟩ := hx
      dsimp only at hk j0 j1 j2 j3
      have hct := CellsAt.grow h14 hct
      have hcq := CellsAt.grow h14 hcq
      dsimp only
      (conv => whnf)
      refine IteP.mk (fun hlt2 => W.mk ?_) (fun hge2 => W.mk ?_) <;> (conv => whnf)
      · rcases (by omega : k = 0 ∨ k = 1) with rfl | rfl
        · have j0 : SlV intE G14 (sV u0) da0 := j0
          have j2 : SlV intE G14 (sV u2) dn0 := j2
          repeat' (first | (refine OblP.mk ?_ (W.mk ?_); (first | trivial | omega | (simp only [inR]; omega) | exact Nat.le_of_ble_eq_true (by rfl) | exact SlR.some (by assumption) (by omega)); (conv => whnf)) | (first | (refine RdP.at (by assumption) (by rfl) (W.mk ?_); (conv => whnf)) | (refine RdP.sub (by assumption) (by rfl) (W.mk ?_); (conv => whnf)) | (refine RdP.sub2 (by assumption) (by rfl) (W.mk ?_); (conv => whnf)) | (refine RdP.sub3 (by assumption) (by rfl) (W.mk ?_); (conv => whnf))))
          refine EqsP.mk ⟨[.val (sV u0)], rfl, rfl, W.mk ?_⟩
          (conv => whnf)
          repeat' (first | (refine OblP.mk ?_ (W.mk ?_); (first | trivial | omega | (simp only [inR]; omega) | exact Nat.le_of_ble_eq_true (by rfl) | exact SlR.some (by assumption) (by omega)); (conv => whnf)) | (first | (refine RdP.at (by assumption) (by rfl) (W.mk ?_); (conv => whnf)) | (refine RdP.sub (by assumption) (by rfl) (W.mk ?_); (conv => whnf)) | (refine RdP.sub2 (by assumption) (by rfl) (W.mk ?_); (conv => whnf)) | (refine RdP.sub3 (by assumption) (by rfl) (W.mk ?_); (conv => whnf))))
          refine IteP.mk (fun c1 => W.mk ?_) (fun c1 => W.mk ?_) <;> (conv => whnf)
          · refine RelP.g (ok3 (slRd intE) intRd booRd fun l _ _ => l.length ≤ 1000) (x := (da0, e, true)) ⟨_, _, _, rfl, j0, rfl, rfl, by show (da0).length ≤ 1000; omega⟩ (Grow.refl _) (fun v G15 h15 hq => W.mk ?_)
            obtain ⟨b1, b2, b3, rfl, hb1, hb2⟩ := hq
            (conv => whnf)
            repeat' (first | (refine OblP.mk ?_ (W.mk ?_); (first | trivial | omega | (simp only [inR]; omega) | exact Nat.le_of_ble_eq_true (by rfl) | exact SlR.some (by assumption) (by omega)); (conv => whnf)) | (first | (refine RdP.at (by assumption) (by rfl) (W.mk ?_); (conv => whnf)) | (refine RdP.sub (by assumption) (by rfl) (W.mk ?_); (conv => whnf)) | (refine RdP.sub2 (by assumption) (by rfl) (W.mk ?_); (conv => whnf)) | (refine RdP.sub3 (by assumption) (by rfl) (W.mk ?_); (conv => whnf))))
            refine EqsP.mk ⟨[.val (sV u2)], rfl, rfl, W.mk ?_⟩
            (conv => whnf)
            repeat' (first | (refine OblP.mk ?_ (W.mk ?_); (first | trivial | omega | (simp only [inR]; omega) | exact Nat.le_of_ble_eq_true (by rfl) | exact SlR.some (by assumption) (by omega)); (conv => whnf)) | (first | (refine RdP.at (by assumption) (by rfl) (W.mk ?_); (conv => whnf)) | (refine RdP.sub (by assumption) (by rfl) (W.mk ?_); (conv => whnf)) | (refine RdP.sub2 (by assumption) (by rfl) (W.mk ?_); (conv => whnf)) | (refine RdP.sub3 (by assumption) (by rfl) (W.mk ?_); (conv => whnf))))
            refine IteP.mk (fun c2 => W.mk ?_) (fun c2 => W.mk ?_) <;> (conv => whnf)
            · refine RelP.g (ok3 (slRd intE) intRd booRd fun l _ _ => l.length ≤ 1000) (x := (dn0, e, true)) ⟨_, _, _, rfl, SlV.grow h15 j2, rfl, rfl, by show (dn0).length ≤ 1000; omega⟩ (Grow.refl _) (fun v G16 h16 hq => W.mk ?_)
              obtain ⟨e1, e2, e3, rfl, he1, he2⟩ := hq
              have hgg := h15.trans h16
              have hb' : SlV intE G16 (.slice b1 b2 b3) (toldF _ e true) := SlV.grow h16 ⟨_, _, _, rfl, hb1, hb2⟩
              have he' : SlV intE G16 (.slice e1 e2 e3) (toldF dn0 e true) := ⟨_, _, _, rfl, he1, he2⟩
              rw [show true = decide (t[e.toNat] = 1) by simp [c1]] at hb'
              rw [show true = decide (t[e.toNat] = 2) by simp [c2]] at he'
              (conv => whnf)
              repeat' (first | (refine OblP.mk ?_ (W.mk ?_); (first | trivial | omega | (simp only [inR]; omega) | exact Nat.le_of_ble_eq_true (by rfl) | exact SlR.some (by assumption) (by omega)); (conv => whnf)) | (first | (refine RdP.at (by assumption) (by rfl) (W.mk ?_); (conv => whnf)) | (refine RdP.sub (by assumption) (by rfl) (W.mk ?_); (conv => whnf)) | (refine RdP.sub2 (by assumption) (by rfl) (W.mk ?_); (conv => whnf)) | (refine RdP.sub3 (by assumption) (by rfl) (W.mk ?_); (conv => whnf))))
              (refine RoundP.of (1, (b1, b2, b3), u1, (e1, e2, e3), u3) (HeadP.of [] ⟨rfl, rfl, rfl, rfl, rfl, rfl, rfl, trivial⟩ ⟨rfl, rfl, trivial⟩) ⟨by show (1 : Nat) ≤ 2; omega, hb', SlV.grow hgg j1, he', SlV.grow hgg j3⟩ (by simp only; omega))
            · refine RelP.g (ok3 (slRd intE) intRd booRd fun l _ _ => l.length ≤ 1000) (x := (dn0, e, false)) ⟨_, _, _, rfl, SlV.grow h15 j2, rfl, rfl, by show (dn0).length ≤ 1000; omega⟩ (Grow.refl _) (fun v G16 h16 hq => W.mk ?_)
              obtain ⟨e1, e2, e3, rfl, he1, he2⟩ := hq
              have hgg := h15.trans h16
              have hb' : SlV intE G16 (.slice b1 b2 b3) (toldF _ e true) := SlV.grow h16 ⟨_, _, _, rfl, hb1, hb2⟩
              have he' : SlV intE G16 (.slice e1 e2 e3) (toldF dn0 e false) := ⟨_, _, _, rfl, he1, he2⟩
              rw [show true = decide (t[e.toNat] = 1) by simp [c1]] at hb'
              rw [show false = decide (t[e.toNat] = 2) by simp [c2]] at he'
              (conv => whnf)
              repeat' (first | (refine OblP.mk ?_ (W.mk ?_); (first | trivial | omega | (simp only [inR]; omega) | exact Nat.le_of_ble_eq_true (by rfl) | exact SlR.some (by assumption) (by omega)); (conv => whnf)) | (first | (refine RdP.at (by assumption) (by rfl) (W.mk ?_); (conv => whnf)) | (refine RdP.sub (by assumption) (by rfl) (W.mk ?_); (conv => whnf)) | (refine RdP.sub2 (by assumption) (by rfl) (W.mk ?_); (conv => whnf)) | (refine RdP.sub3 (by assumption) (by rfl) (W.mk ?_); (conv => whnf))))
              (refine RoundP.of (1, (b1, b2, b3), u1, (e1, e2, e3), u3) (HeadP.of [] ⟨rfl, rfl, rfl, rfl, rfl, rfl, rfl, trivial⟩ ⟨rfl, rfl, trivial⟩) ⟨by show (1 : Nat) ≤ 2; omega, hb', SlV.grow hgg j1, he', SlV.grow hgg j3⟩ (by simp only; omega))
          · refine RelP.g (ok3 (slRd intE) intRd booRd fun l _ _ => l.length ≤ 1000) (x := (da0, e, false)) ⟨_, _, _, rfl, j0, rfl, rfl, by show (da0).length ≤ 1000; omega⟩ (Grow.refl _) (fun v G15 h15 hq => W.mk ?_)
            obtain ⟨b1, b2, b3, rfl, hb1, hb2⟩ := hq
            (conv => whnf)
            repeat' (first | (refine OblP.mk ?_ (W.mk ?_); (first | trivial | omega | (simp only [inR]; omega) | exact Nat.le_of_ble_eq_true (by rfl) | exact SlR.some (by assumption) (by omega)); (conv => whnf)) | (first | (refine RdP.at (by assumption) (by rfl) (W.mk ?_); (conv => whnf)) | (refine RdP.sub (by assumption) (by rfl) (W.mk ?_); (conv => whnf)) | (refine RdP.sub2 (by assumption) (by rfl) (W.mk ?_); (conv => whnf)) | (refine RdP.sub3 (by assumption) (by rfl) (W.mk ?_); (conv => whnf))))
            refine EqsP.mk ⟨[.val (sV u2)], rfl, rfl, W.mk ?_⟩
            (conv => whnf)
            repeat' (first | (refine OblP.mk ?_ (W.mk ?_); (first | trivial | omega | (simp only [inR]; omega) | exact Nat.le_of_ble_eq_true (by rfl) | exact SlR.some (by assumption) (by omega)); (conv => whnf)) | (first | (refine RdP.at (by assumption) (by rfl) (W.mk ?_); (conv => whnf)) | (refine RdP.sub (by assumption) (by rfl) (W.mk ?_); (conv => whnf)) | (refine RdP.sub2 (by assumption) (by rfl) (W.mk ?_); (conv => whnf)) | (refine RdP.sub3 (by assumption) (by rfl) (W.mk ?_); (conv => whnf))))
            refine IteP.mk (fun c2 => W.mk ?_) (fun c2 => W.mk ?_) <;> (conv => whnf)
            · refine RelP.g (ok3 (slRd intE) intRd booRd fun l _ _ => l.length ≤ 1000) (x := (dn0, e, true)) ⟨_, _, _, rfl, SlV.grow h15 j2, rfl, rfl, by show (dn0).length ≤ 1000; omega⟩ (Grow.refl _) (fun v G16 h16 hq => W.mk ?_)
              obtain ⟨e1, e2, e3, rfl, he1, he2⟩ := hq
              have hgg := h15.trans h16
              have hb' : SlV intE G16 (.slice b1 b2 b3) (toldF _ e false) := SlV.grow h16 ⟨_, _, _, rfl, hb1, hb2⟩
              have he' : SlV intE G16 (.slice e1 e2 e3) (toldF dn0 e true) := ⟨_, _, _, rfl, he1, he2⟩
              rw [show false = decide (t[e.toNat] = 1) by simp [c1]] at hb'
              rw [show true = decide (t[e.toNat] = 2) by simp [c2]] at he'
              (conv => whnf)
              repeat' (first | (refine OblP.mk ?_ (W.mk ?_); (first | trivial | omega | (simp only [inR]; omega) | exact Nat.le_of_ble_eq_true (by rfl) | exact SlR.some (by assumption) (by omega)); (conv => whnf)) | (first | (refine RdP.at (by assumption) (by rfl) (W.mk ?_); (conv => whnf)) | (refine RdP.sub (by assumption) (by rfl) (W.mk ?_); (conv => whnf)) | (refine RdP.sub2 (by assumption) (by rfl) (W.mk ?_); (conv => whnf)) | (refine RdP.sub3 (by assumption) (by rfl) (W.mk ?_); (conv => whnf))))
              (refine RoundP.of (1, (b1, b2, b3), u1, (e1, e2, e3), u3) (HeadP.of [] ⟨rfl, rfl, rfl, rfl, rfl, rfl, rfl, trivial⟩ ⟨rfl, rfl, trivial⟩) ⟨by show (1 : Nat) ≤ 2; omega, hb', SlV.grow hgg j1, he', SlV.grow hgg j3⟩ (by simp only; omega))
            · refine RelP.g (ok3 (slRd intE) intRd booRd fun l _ _ => l.length ≤ 1000) (x := (dn0, e, false)) ⟨_, _, _, rfl, SlV.grow h15 j2, rfl, rfl, by show (dn0).length ≤ 1000; omega⟩ (Grow.refl _) (fun v G16 h16 hq => W.mk ?_)
              obtain ⟨e1, e2, e3, rfl, he1, he2⟩ := hq
              have hgg := h15.trans h16
              have hb' : SlV intE G16 (.slice b1 b2 b3) (toldF _ e false) := SlV.grow h16 ⟨_, _, _, rfl, hb1, hb2⟩
              have he' : SlV intE G16 (.slice e1 e2 e3) (toldF dn0 e false) := ⟨_, _, _, rfl, he1, he2⟩
              rw [show false = decide (t[e.toNat] = 1) by simp [c1]] at hb'
              rw [show false = decide (t[e.toNat] = 2) by simp [c2]] at he'
              (conv => whnf)
              repeat' (first | (refine OblP.mk ?_ (W.mk ?_); (first | trivial | omega | (simp only [inR]; omega) | exact Nat.le_of_ble_eq_true (by rfl) | exact SlR.some (by assumption) (by omega)); (conv => whnf)) | (first | (refine RdP.at (by assumption) (by rfl) (W.mk ?_); (conv => whnf)) | (refine RdP.sub (by assumption) (by rfl) (W.mk ?_); (conv => whnf)) | (refine RdP.sub2 (by assumption) (by rfl) (W.mk ?_); (conv => whnf)) | (refine RdP.sub3 (by assumption) (by rfl) (W.mk ?_); (conv => whnf))))
              (refine RoundP.of (1, (b1, b2, b3), u1, (e1, e2, e3), u3) (HeadP.of [] ⟨rfl, rfl, rfl, rfl, rfl, rfl, rfl, trivial⟩ ⟨rfl, rfl, trivial⟩) ⟨by show (1 : Nat) ≤ 2; omega, hb', SlV.grow hgg j1, he', SlV.grow hgg j3⟩ (by simp only; omega))
        · have j1 : SlV intE G14 (sV u1) da1 := j1
          have j3 : SlV intE G14 (sV u3) dn1 := j3
          repeat' (first | (refine OblP.mk ?_ (W.mk ?_); (first | trivial | omega | (simp only [inR]; omega) | exact Nat.le_of_ble_eq_true (by rfl) | exact SlR.some (by assumption) (by omega)); (conv => whnf)) | (first | (refine RdP.at (by assumption) (by rfl) (W.mk ?_); (conv => whnf)) | (refine RdP.sub (by assumption) (by rfl) (W.mk ?_); (conv => whnf)) | (refine RdP.sub2 (by assumption) (by rfl) (W.mk ?_); (conv => whnf)) | (refine RdP.sub3 (by assumption) (by rfl) (W.mk ?_); (conv => whnf))))
          refine EqsP.mk ⟨[.val (sV u1)], rfl, rfl, W.mk ?_⟩
          (conv => whnf)
          repeat' (first | (refine OblP.mk ?_ (W.mk ?_); (first | trivial | omega | (simp only [inR]; omega) | exact Nat.le_of_ble_eq_true (by rfl) | exact SlR.some (by assumption) (by omega)); (conv => whnf)) | (first | (refine RdP.at (by assumption) (by rfl) (W.mk ?_); (conv => whnf)) | (refine RdP.sub (by assumption) (by rfl) (W.mk ?_); (conv => whnf)) | (refine RdP.sub2 (by assumption) (by rfl) (W.mk ?_); (conv => whnf)) | (refine RdP.sub3 (by assumption) (by rfl) (W.mk ?_); (conv => whnf))))
          refine IteP.mk (fun c1 => W.mk ?_) (fun c1 => W.mk ?_) <;> (conv => whnf)
          · refine RelP.g (ok3 (slRd intE) intRd booRd fun l _ _ => l.length ≤ 1000) (x := (da1, e, true)) ⟨_, _, _, rfl, j1, rfl, rfl, by show (da1).length ≤ 1000; omega⟩ (Grow.refl _) (fun v G15 h15 hq => W.mk ?_)
            obtain ⟨b1, b2, b3, rfl, hb1, hb2⟩ := hq
            (conv => whnf)
            repeat' (first | (refine OblP.mk ?_ (W.mk ?_); (first | trivial | omega | (simp only [inR]; omega) | exact Nat.le_of_ble_eq_true (by rfl) | exact SlR.some (by assumption) (by omega)); (conv => whnf)) | (first | (refine RdP.at (by assumption) (by rfl) (W.mk ?_); (conv => whnf)) | (refine RdP.sub (by assumption) (by rfl) (W.mk ?_); (conv => whnf)) | (refine RdP.sub2 (by assumption) (by rfl) (W.mk ?_); (conv => whnf)) | (refine RdP.sub3 (by assumption) (by rfl) (W.mk ?_); (conv => whnf))))
            refine EqsP.mk ⟨[.val (sV u3)], rfl, rfl, W.mk ?_⟩
            (conv => whnf)
            repeat' (first | (refine OblP.mk ?_ (W.mk ?_); (first | trivial | omega | (simp only [inR]; omega) | exact Nat.le_of_ble_eq_true (by rfl) | exact SlR.some (by assumption) (by omega)); (conv => whnf)) | (first | (refine RdP.at (by assumption) (by rfl) (W.mk ?_); (conv => whnf)) | (refine RdP.sub (by assumption) (by rfl) (W.mk ?_); (conv => whnf)) | (refine RdP.sub2 (by assumption) (by rfl) (W.mk ?_); (conv => whnf)) | (refine RdP.sub3 (by assumption) (by rfl) (W.mk ?_); (conv => whnf))))
            refine IteP.mk (fun c2 => W.mk ?_) (fun c2 => W.mk ?_) <;> (conv => whnf)
            · refine RelP.g (ok3 (slRd intE) intRd booRd fun l _ _ => l.length ≤ 1000) (x := (dn1, e, true)) ⟨_, _, _, rfl, SlV.grow h15 j3, rfl, rfl, by show (dn1).length ≤ 1000; omega⟩ (Grow.refl _) (fun v G16 h16 hq => W.mk ?_)
              obtain ⟨e1, e2, e3, rfl, he1, he2⟩ := hq
              have hgg := h15.trans h16
              have hb' : SlV intE G16 (.slice b1 b2 b3) (toldF _ e true) := SlV.grow h16 ⟨_, _, _, rfl, hb1, hb2⟩
              have he' : SlV intE G16 (.slice e1 e2 e3) (toldF dn1 e true) := ⟨_, _, _, rfl, he1, he2⟩
              rw [show true = decide (t[e.toNat] = 1) by simp [c1]] at hb'
              rw [show true = decide (t[e.toNat] = 2) by simp [c2]] at he'
              (conv => whnf)
              repeat' (first | (refine OblP.mk ?_ (W.mk ?_); (first | trivial | omega | (simp only [inR]; omega) | exact Nat.le_of_ble_eq_true (by rfl) | exact SlR.some (by assumption) (by omega)); (conv => whnf)) | (first | (refine RdP.at (by assumption) (by rfl) (W.mk ?_); (conv => whnf)) | (refine RdP.sub (by assumption) (by rfl) (W.mk ?_); (conv => whnf)) | (refine RdP.sub2 (by assumption) (by rfl) (W.mk ?_); (conv => whnf)) | (refine RdP.sub3 (by assumption) (by rfl) (W.mk ?_); (conv => whnf))))
              (refine RoundP.of (2, u0, (b1, b2, b3), u2, (e1, e2, e3)) (HeadP.of [] ⟨rfl, rfl, rfl, rfl, rfl, rfl, rfl, trivial⟩ ⟨rfl, rfl, trivial⟩) ⟨by show (2 : Nat) ≤ 2; omega, SlV.grow hgg j0, hb', SlV.grow hgg j2, he'⟩ (by simp only; omega))
            · refine RelP.g (ok3 (slRd intE) intRd booRd fun l _ _ => l.length ≤ 1000) (x := (dn1, e, false)) ⟨_, _, _, rfl, SlV.grow h15 j3, rfl, rfl, by show (dn1).length ≤ 1000; omega⟩ (Grow.refl _) (fun v G16 h16 hq => W.mk ?_)
              obtain ⟨e1, e2, e3, rfl, he1, he2⟩ := hq
              have hgg := h15.trans h16
              have hb' : SlV intE G16 (.slice b1 b2 b3) (toldF _ e true) := SlV.grow h16 ⟨_, _, _, rfl, hb1, hb2⟩
              have he' : SlV intE G16 (.slice e1 e2 e3) (toldF dn1 e false) := ⟨_, _, _, rfl, he1, he2⟩
              rw [show true = decide (t[e.toNat] = 1) by simp [c1]] at hb'
              rw [show false = decide (t[e.toNat] = 2) by simp [c2]] at he'
              (conv => whnf)
              repeat' (first | (refine OblP.mk ?_ (W.mk ?_); (first | trivial | omega | (simp only [inR]; omega) | exact Nat.le_of_ble_eq_true (by rfl) | exact SlR.some (by assumption) (by omega)); (conv => whnf)) | (first | (refine RdP.at (by assumption) (by rfl) (W.mk ?_); (conv => whnf)) | (refine RdP.sub (by assumption) (by rfl) (W.mk ?_); (conv => whnf)) | (refine RdP.sub2 (by assumption) (by rfl) (W.mk ?_); (conv => whnf)) | (refine RdP.sub3 (by assumption) (by rfl) (W.mk ?_); (conv => whnf))))
              (refine RoundP.of (2, u0, (b1, b2, b3), u2, (e1, e2, e3)) (HeadP.of [] ⟨rfl, rfl, rfl, rfl, rfl, rfl, rfl, trivial⟩ ⟨rfl, rfl, trivial⟩) ⟨by show (2 : Nat) ≤ 2; omega, SlV.grow hgg j0, hb', SlV.grow hgg j2, he'⟩ (by simp only; omega))
          · refine RelP.g (ok3 (slRd intE) intRd booRd fun l _ _ => l.length ≤ 1000) (x := (da1, e, false)) ⟨_, _, _, rfl, j1, rfl, rfl, by show (da1).length ≤ 1000; omega⟩ (Grow.refl _) (fun v G15 h15 hq => W.mk ?_)
            obtain ⟨b1, b2, b3, rfl, hb1, hb2⟩ := hq
            (conv => whnf)
            repeat' (first | (refine OblP.mk ?_ (W.mk ?_); (first | trivial | omega | (simp only [inR]; omega) | exact Nat.le_of_ble_eq_true (by rfl) | exact SlR.some (by assumption) (by omega)); (conv => whnf)) | (first | (refine RdP.at (by assumption) (by rfl) (W.mk ?_); (conv => whnf)) | (refine RdP.sub (by assumption) (by rfl) (W.mk ?_); (conv => whnf)) | (refine RdP.sub2 (by assumption) (by rfl) (W.mk ?_); (conv => whnf)) | (refine RdP.sub3 (by assumption) (by rfl) (W.mk ?_); (conv => whnf))))
            refine EqsP.mk ⟨[.val (sV u3)], rfl, rfl, W.mk ?_⟩
            (conv => whnf)
            repeat' (first | (refine OblP.mk ?_ (W.mk ?_); (first | trivial | omega | (simp only [inR]; omega) | exact Nat.le_of_ble_eq_true (by rfl) | exact SlR.some (by assumption) (by omega)); (conv => whnf)) | (first | (refine RdP.at (by assumption) (by rfl) (W.mk ?_); (conv => whnf)) | (refine RdP.sub (by assumption) (by rfl) (W.mk ?_); (conv => whnf)) | (refine RdP.sub2 (by assumption) (by rfl) (W.mk ?_); (conv => whnf)) | (refine RdP.sub3 (by assumption) (by rfl) (W.mk ?_); (conv => whnf))))
            refine IteP.mk (fun c2 => W.mk ?_) (fun c2 => W.mk ?_) <;> (conv => whnf)
            · refine RelP.g (ok3 (slRd intE) intRd booRd fun l _ _ => l.length ≤ 1000) (x := (dn1, e, true)) ⟨_, _, _, rfl, SlV.grow h15 j3, rfl, rfl, by show (dn1).length ≤ 1000; omega⟩ (Grow.refl _) (fun v G16 h16 hq => W.mk ?_)
              obtain ⟨e1, e2, e3, rfl, he1, he2⟩ := hq
              have hgg := h15.trans h16
              have hb' : SlV intE G16 (.slice b1 b2 b3) (toldF _ e false) := SlV.grow h16 ⟨_, _, _, rfl, hb1, hb2⟩
              have he' : SlV intE G16 (.slice e1 e2 e3) (toldF dn1 e true) := ⟨_, _, _, rfl, he1, he2⟩
              rw [show false = decide (t[e.toNat] = 1) by simp [c1]] at hb'
              rw [show true = decide (t[e.toNat] = 2) by simp [c2]] at he'
              (conv => whnf)
              repeat' (first | (refine OblP.mk ?_ (W.mk ?_); (first | trivial | omega | (simp only [inR]; omega) | exact Nat.le_of_ble_eq_true (by rfl) | exact SlR.some (by assumption) (by omega)); (conv => whnf)) | (first | (refine RdP.at (by assumption) (by rfl) (W.mk ?_); (conv => whnf)) | (refine RdP.sub (by assumption) (by rfl) (W.mk ?_); (conv => whnf)) | (refine RdP.sub2 (by assumption) (by rfl) (W.mk ?_); (conv => whnf)) | (refine RdP.sub3 (by assumption) (by rfl) (W.mk ?_); (conv => whnf))))
              (refine RoundP.of (2, u0, (b1, b2, b3), u2, (e1, e2, e3)) (HeadP.of [] ⟨rfl, rfl, rfl, rfl, rfl, rfl, rfl, trivial⟩ ⟨rfl, rfl, trivial⟩) ⟨by show (2 : Nat) ≤ 2; omega, SlV.grow hgg j0, hb', SlV.grow hgg j2, he'⟩ (by simp only; omega))
            · refine RelP.g (ok3 (slRd intE) intRd booRd fun l _ _ => l.length ≤ 1000) (x := (dn1, e, false)) ⟨_, _, _, rfl, SlV.grow h15 j3, rfl, rfl, by show (dn1).length ≤ 1000; omega⟩ (Grow.refl _) (fun v G16 h16 hq => W.mk ?_)
              obtain ⟨e1, e2, e3, rfl, he1, he2⟩ := hq
              have hgg := h15.trans h16
              have hb' : SlV intE G16 (.slice b1 b2 b3) (toldF _ e false) := SlV.grow h16 ⟨_, _, _, rfl, hb1, hb2⟩
              have he' : SlV intE G16 (.slice e1 e2 e3) (toldF dn1 e false) := ⟨_, _, _, rfl, he1, he2⟩
              rw [show false = decide (t[e.toNat] = 1) by simp [c1]] at hb'
              rw [show false = decide (t[e.toNat] = 2) by simp [c2]] at he'
              (conv => whnf)
              repeat' (first | (refine OblP.mk ?_ (W.mk ?_); (first | trivial | omega | (simp only [inR]; omega) | exact Nat.le_of_ble_eq_true (by rfl) | exact SlR.some (by assumption) (by omega)); (conv => whnf)) | (first | (refine RdP.at (by assumption) (by rfl) (W.mk ?_); (conv => whnf)) | (refine RdP.sub (by assumption) (by rfl) (W.mk ?_); (conv => whnf)) | (refine RdP.sub2 (by assumption) (by rfl) (W.mk ?_); (conv => whnf)) | (refine RdP.sub3 (by assumption) (by rfl) (W.mk ?_); (conv => whnf))))
              (refine RoundP.of (2, u0, (b1, b2, b3), u2, (e1, e2, e3)) (HeadP.of [] ⟨rfl, rfl, rfl, rfl, rfl, rfl, rfl, trivial⟩ ⟨rfl, rfl, trivial⟩) ⟨by show (2 : Nat) ≤ 2; omega, SlV.grow hgg j0, hb', SlV.grow hgg j2, he'⟩ (by simp only; omega))
      · have : k = 2 := by omega
        subst this
        repeat' (refine OblP.mk ?_ (W.mk ?_); (first | trivial | omega | (simp only [inR]; omega) | exact Nat.le_of_ble_eq_true (by rfl) | exact SlR.some (by assumption) (by omega)); (conv => whnf))
        refine RoundP.of (i + 1, u0, u1, u2, u3, { d with a0 := toldF da0 e (decide (t[e.toNat] = 1)), a1 := toldF da1 e (decide (t[e.toNat] = 1)), n0 := toldF dn0 e (decide (t[e.toNat] = 2)), n1 := toldF dn1 e (decide (t[e.toNat] = 2)) }) (HeadP.of [] ⟨rfl, rfl, rfl, rfl, rfl, rfl, trivial⟩ ⟨rfl, rfl, trivial⟩) ⟨hlt, ?_, j0, j1, j2, j3⟩ (by simp only; omega)
        have hsno := hA.snoc (x := e) hqe.1 hqe.2 (by rw [htg]; exact htv)
        rw [ansD, htg] at hsno
        rw [hsn]
        exact hsno
    · have hie : i = (askF d).length := by omega
      subst hie
      rw [List.take_length] at hA
      have hal := hA.allow hop ht hqm hdec
      refine RelP.g (ok1 dvRd rul) (x := ⟨d.m, da0, da1, dn0, dn1, d.ps, d.qs, d.rule, d.need, d.quorum, d.tie⟩) ⟨_, rfl, ⟨_, _, _, _, _, _, rfl, k0, k1, k2, k3, ⟨_, _, _, rfl, SlR.grow (G := G12) (G' := G13) (fun _ _ h => h) lps' h13, yps'⟩, ⟨_, _, _, rfl, SlR.grow (G := G12) (G' := G13) (fun _ _ h => h) lqs' h13, yqs'⟩⟩, hr⟩ (Grow.refl _) (fun v G15 h15 hq => W.mk ?_)
      obtain ⟨w, rfl, aw, nw, cw, rfl, hw, hwn⟩ := hq
      rw [if_pos hA.op, hal] at hw
      rw [hA.op]
      have hwl : 1 = nw := hw.len
      have hc : CellsAt G15 (ab aw) (ao aw + 0 * 1) [U (outF d (ofF d t))] := hw.el (i := 0) (by simp)
      generalize outF d (ofF d t) = oc at hc ⊢
      (conv => whnf)
      repeat' (first | (refine IteP.mk (fun _ => W.mk ?_) (fun _ => W.mk ?_) <;> first | (exfalso; omega) | (conv => whnf)) | (refine OblP.mk ?_ (W.mk ?_); (first | trivial | omega | (simp only [inR]; omega) | exact Nat.le_of_ble_eq_true (by rfl) | exact SlR.some (by assumption) (by omega)); (conv => whnf)) | (first | (refine RdP.at (by assumption) (by rfl) (W.mk ?_); (conv => whnf)) | (refine RdP.sub (by assumption) (by rfl) (W.mk ?_); (conv => whnf)) | (refine RdP.sub2 (by assumption) (by rfl) (W.mk ?_); (conv => whnf)) | (refine RdP.sub3 (by assumption) (by rfl) (W.mk ?_); (conv => whnf))))
      refine ScaP.g okU (x := ()) rfl (fun v hv => W.mk ?_)
      subst hv
      (conv => whnf)
      refine ForkP.mk (fun _ => W.mk ?_) (fun h => by cases h)
      (conv => whnf)
      exact FinP.mk rfl
end Go.Proofs.YtgpfejgohclheaaGreat
