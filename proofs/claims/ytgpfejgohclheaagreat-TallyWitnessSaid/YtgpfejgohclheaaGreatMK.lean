/- Layer 7: what is drawn: a division with no bounds on its lists; few. Layer 7, plain: the truths that fit are those that are gone through. Layer 7: the drawn values, opened. Layer 7, the seat .Z: chosen: a truth that fits, by a word. Layer 7, the seat .Z: ready. Layer 7, the seat .Z: the law TallyMore. Layer 7, the seat .Z: the law TallyTruth. Layer 7, the seat .Z: Truth, Fits of the reference. Layer 7, the seat .Z: the law TallyWitness. Layer 7, the seat .Z: the drawn words, opened. -/
import Derived.Test.YtgpfejgohclheaaGreatMJ
import Derived.Test.YtgpfejgohclheaaGreatMC
import Derived.Test.YtgpfejgohclheaaGreatRows
import Derived.Test.YtgpfejgohclheaaGreatME
namespace Go.Proofs.YtgpfejgohclheaaGreat
open Go.Pal
set_option maxRecDepth 100000
def SlU {α : Type} (e : El α) (G : Hp) (v : Value) (l : List α) : Prop := ∃ a n c, v = .slice a n c ∧ SlR e.k e.R G a n c l
theorem SlU.uniq {α : Type} {e : El α} {G : Hp} {v : Value} {x y : List α} (h : SlU e G v x) (h' : SlU e G v y) : x = y := by
  obtain ⟨a, n, c, rfl, h⟩ := h
  obtain ⟨a', n', c', e', h'⟩ := h'
  cases e'
  exact h.uniq (fun cs x y h1 h2 => e.inj (h1.symm.trans h2)) h'
theorem SlU.grow {α : Type} {e : El α} {G G' : Hp} {v : Value} {x : List α} (hg : Grow G G') (h : SlU e G v x) : SlU e G' v x := by
  obtain ⟨a, n, c, rfl, h⟩ := h
  exact ⟨a, n, c, rfl, SlR.grow (G := G) (G' := G') (fun _ _ h => h) h hg⟩
theorem SlU.v {α : Type} {e : El α} {G : Hp} {v : Value} {x : List α} (h : SlU e G v x) (hb : x.length ≤ 140737488355328) : SlV e G v x := by
  obtain ⟨a, n, c, rfl, h⟩ := h
  exact ⟨a, n, c, rfl, h, by rw [← h.len]; exact hb⟩
structure DuC (G : Hp) (w0 w1 w2 w3 w4 w5 : Value) (d : Dv) : Prop where
  a0 : SlU intE G w0 d.a0
  a1 : SlU intE G w1 d.a1
  n0 : SlU intE G w2 d.n0
  n1 : SlU intE G w3 d.n1
  ps : SlU prE G w4 d.ps
  qs : SlU prE G w5 d.qs
theorem DuC.grow {G G' : Hp} {w0 w1 w2 w3 w4 w5 : Value} {d : Dv} (hg : Grow G G') (h : DuC G w0 w1 w2 w3 w4 w5 d) : DuC G' w0 w1 w2 w3 w4 w5 d :=
  ⟨h.a0.grow hg, h.a1.grow hg, h.n0.grow hg, h.n1.grow hg, h.ps.grow hg, h.qs.grow hg⟩
def DuV (G : Hp) (v : Value) (d : Dv) : Prop := ∃ w0 w1 w2 w3 w4 w5, v = .agg #[I d.m, w0, w1, w2, w3, w4, w5, U d.rule, I d.need, I d.quorum, U d.tie] ∧ DuC G w0 w1 w2 w3 w4 w5 d
def duRd : Rd Dv := ⟨DuV, fun {_ _ x y} ⟨w0, w1, w2, w3, w4, w5, h, h1⟩ ⟨v0, v1, v2, v3, v4, v5, h', h1'⟩ => by
    subst h
    simp only [Value.agg.injEq, Array.mk.injEq, List.cons.injEq, Value.int.injEq, true_and, and_true] at h'
    obtain ⟨e1, e2, e3, e4, e5, e6, e7, e8, e9, e10, e11⟩ := h'
    subst e2; subst e3; subst e4; subst e5; subst e6; subst e7
    have k0 := h1.a0.uniq h1'.a0
    have k1 := h1.a1.uniq h1'.a1
    have k2 := h1.n0.uniq h1'.n0
    have k3 := h1.n1.uniq h1'.n1
    have k4 := h1.ps.uniq h1'.ps
    have k5 := h1.qs.uniq h1'.qs
    cases x; cases y; simp_all, fun hg ⟨w0, w1, w2, w3, w4, w5, h, h1⟩ => ⟨w0, w1, w2, w3, w4, w5, h, h1.grow hg⟩⟩
theorem DuC.v {G : Hp} {w0 w1 w2 w3 w4 w5 : Value} {d : Dv} (h : DuC G w0 w1 w2 w3 w4 w5 d) (hf : fewF d = true) : DvC G w0 w1 w2 w3 w4 w5 d := by
  simp only [fewF, Bool.and_eq_true, decide_eq_true_eq] at hf
  obtain ⟨⟨⟨⟨⟨h1, h2⟩, h3⟩, h4⟩, h5⟩, h6⟩ := hf
  exact ⟨h.a0.v (by omega), h.a1.v (by omega), h.n0.v (by omega), h.n1.v (by omega), h.ps.v (by omega), h.qs.v (by omega)⟩
theorem DuV.v {G : Hp} {v : Value} {d : Dv} (h : DuV G v d) (hf : fewF d = true) : DvV G v d := by
  obtain ⟨w0, w1, w2, w3, w4, w5, e, h⟩ := h
  exact ⟨w0, w1, w2, w3, w4, w5, e, h.v hf⟩
theorem few20u : Sound Tryz.prog 22 id (gsca (args1 duRd fun _ => True) fun d v => v = .bool (fewF d)) := by
  refine comp22.gsca (Tab.nil _) (fun args G s h => ?_) (fun args G d h => ?_)
  · obtain ⟨v, rfl, _⟩ := h; simp
  · obtain ⟨u, rfl, ⟨w0, w1, w2, w3, w4, w5, rfl, hd⟩, _⟩ := h
    obtain ⟨x0, y0, z0, rfl, la0⟩ := id hd.a0
    obtain ⟨x1, y1, z1, rfl, la1⟩ := id hd.a1
    obtain ⟨x2, y2, z2, rfl, ln0⟩ := id hd.n0
    obtain ⟨x3, y3, z3, rfl, ln1⟩ := id hd.n1
    obtain ⟨x4, y4, z4, rfl, lps⟩ := id hd.ps
    obtain ⟨x5, y5, z5, rfl, lqs⟩ := id hd.qs
    have e0 := la0.len
    have e1 := la1.len
    have e2 := ln0.len
    have e3 := ln1.len
    have e4 := lps.len
    have e5 := lqs.len
    (conv => whnf)
    refine LoopP.of { α := Nat, fr := fun x => [(1, .c (.ptr 0 0)), (3, .v (I x))], H := fun _ => [(0, .cells .anon (DVC d x0 x1 x2 x3 x4 x5 y0 z0 y1 z1 y2 z2 y3 z3 y4 z4 y5 z5) 27)], ok := fun i _ => i ≤ 2 ∧ (0 < i → y0 ≤ 45 ∧ y2 ≤ 45) ∧ (1 < i → y1 ≤ 45 ∧ y3 ≤ 45), m := fun x => 2 - x }
      0 (HeadP.of [] ⟨rfl, rfl, trivial⟩ ⟨rfl, trivial⟩) ⟨Nat.zero_le _, fun h => by omega, fun h => by omega⟩ (fun _ => ⟨rfl, rfl⟩) (fun (i : Nat) G' hG hx => W.mk ?_)
    obtain ⟨hi, hx1, hx2⟩ := hx
    dsimp only
    (conv => whnf)
    refine IteP.mk (fun hlt => W.mk ?_) (fun hge => W.mk ?_) <;> (conv => whnf)
    · rcases (by omega : i = 0 ∨ i = 1) with rfl | rfl
      · repeat' (refine OblP.mk ?_ (W.mk ?_); (first | trivial | omega | (simp only [inR]; omega) | exact Nat.le_of_ble_eq_true (by rfl) | exact SlR.some (by assumption) (by omega)); (conv => whnf))
        refine EqsP.mk ⟨[.val (.slice x0 y0 z0)], rfl, rfl, W.mk ?_⟩
        (conv => whnf)
        refine IteP.mk (fun h1 => W.mk ?_) (fun h1 => W.mk ?_) <;> (conv => whnf)
        · refine FinP.mk ?_
          refine congrArg Value.bool ?_
          have : decide (d.a0.length ≤ 45) = false := by simp only [decide_eq_false_iff_not]; omega
          simp [fewF, this]
        · repeat' (refine OblP.mk ?_ (W.mk ?_); (first | trivial | omega | (simp only [inR]; omega) | exact Nat.le_of_ble_eq_true (by rfl) | exact SlR.some (by assumption) (by omega)); (conv => whnf))
          refine EqsP.mk ⟨[.val (.slice x2 y2 z2)], rfl, rfl, W.mk ?_⟩
          (conv => whnf)
          refine IteP.mk (fun h2 => W.mk ?_) (fun h2 => W.mk ?_) <;> (conv => whnf)
          · refine FinP.mk ?_
            refine congrArg Value.bool ?_
            have : decide (d.n0.length ≤ 45) = false := by simp only [decide_eq_false_iff_not]; omega
            simp [fewF, this]
          · repeat' (refine OblP.mk ?_ (W.mk ?_); (first | trivial | omega | (simp only [inR]; omega) | exact Nat.le_of_ble_eq_true (by rfl) | exact SlR.some (by assumption) (by omega)); (conv => whnf))
            refine RoundP.of 1 (HeadP.of [] ⟨rfl, rfl, trivial⟩ ⟨rfl, trivial⟩) ⟨by show (1 : Nat) ≤ 2; omega, fun _ => by omega, fun h => by exact absurd h (by show ¬ (1 < 1); omega)⟩ (by simp only; omega)
      · repeat' (refine OblP.mk ?_ (W.mk ?_); (first | trivial | omega | (simp only [inR]; omega) | exact Nat.le_of_ble_eq_true (by rfl) | exact SlR.some (by assumption) (by omega)); (conv => whnf))
        refine EqsP.mk ⟨[.val (.slice x1 y1 z1)], rfl, rfl, W.mk ?_⟩
        (conv => whnf)
        have hx1 := hx1 (by omega)
        refine IteP.mk (fun h1 => W.mk ?_) (fun h1 => W.mk ?_) <;> (conv => whnf)
        · refine FinP.mk ?_
          refine congrArg Value.bool ?_
          have : decide (d.a1.length ≤ 45) = false := by simp only [decide_eq_false_iff_not]; omega
          simp [fewF, this]
        · repeat' (refine OblP.mk ?_ (W.mk ?_); (first | trivial | omega | (simp only [inR]; omega) | exact Nat.le_of_ble_eq_true (by rfl) | exact SlR.some (by assumption) (by omega)); (conv => whnf))
          refine EqsP.mk ⟨[.val (.slice x3 y3 z3)], rfl, rfl, W.mk ?_⟩
          (conv => whnf)
          refine IteP.mk (fun h2 => W.mk ?_) (fun h2 => W.mk ?_) <;> (conv => whnf)
          · refine FinP.mk ?_
            refine congrArg Value.bool ?_
            have : decide (d.n1.length ≤ 45) = false := by simp only [decide_eq_false_iff_not]; omega
            simp [fewF, this]
          · repeat' (refine OblP.mk ?_ (W.mk ?_); (first | trivial | omega | (simp only [inR]; omega) | exact Nat.le_of_ble_eq_true (by rfl) | exact SlR.some (by assumption) (by omega)); (conv => whnf))
            refine RoundP.of 2 (HeadP.of [] ⟨rfl, rfl, trivial⟩ ⟨rfl, trivial⟩) ⟨by show (2 : Nat) ≤ 2; omega, fun _ => hx1, fun _ => by omega⟩ (by simp only; omega)
    · have : i = 2 := by omega
      subst this
      have hx1 := hx1 (by omega)
      have hx2 := hx2 (by omega)
      have d0 : decide (d.a0.length ≤ 45) = true := by simp only [decide_eq_true_eq]; omega
      have d1 : decide (d.a1.length ≤ 45) = true := by simp only [decide_eq_true_eq]; omega
      have d2 : decide (d.n0.length ≤ 45) = true := by simp only [decide_eq_true_eq]; omega
      have d3 : decide (d.n1.length ≤ 45) = true := by simp only [decide_eq_true_eq]; omega
      refine IteP.mk (fun h1 => W.mk ?_) (fun h1 => W.mk ?_) <;> (conv => whnf)
      · have d4 : decide (d.ps.length ≤ 12) = true := by simp only [decide_eq_true_eq]; omega
        refine IteP.mk (fun h2 => W.mk ?_) (fun h2 => W.mk ?_) <;> (conv => whnf) <;> refine FinP.mk ?_ <;> refine congrArg Value.bool ?_
        · have d5 : decide (d.qs.length ≤ 12) = true := by simp only [decide_eq_true_eq]; omega
          simp [fewF, d0, d1, d2, d3, d4, d5]
        · have d5 : decide (d.qs.length ≤ 12) = false := by simp only [decide_eq_false_iff_not]; omega
          simp [fewF, d5]
      · refine FinP.mk ?_
        refine congrArg Value.bool ?_
        have d4 : decide (d.ps.length ≤ 12) = false := by simp only [decide_eq_false_iff_not]; omega
        simp [fewF, d4]
end Go.Proofs.YtgpfejgohclheaaGreat

namespace Go.Proofs.YtgpfejgohclheaaGreat
open Go.Pal
theorem trK_mem {may : Nat → List Int} : ∀ r m f g, (∀ j, m ≤ j → j < m + r → g j ∈ may j) → (∀ j, j < m ∨ m + r ≤ j → g j = f j) → g ∈ trK may r m f
  | 0, m, f, g, _, h2 => by
    simp only [trK, List.mem_singleton]
    funext j
    exact h2 j (by omega)
  | r + 1, m, f, g, h1, h2 => by
    simp only [trK, List.mem_flatMap]
    refine ⟨g m, h1 m (by omega) (by omega), trK_mem r (m + 1) _ g (fun j a b => h1 j (by omega) (by omega)) (fun j hj => ?_)⟩
    by_cases hjm : j = m
    · subst hjm; rw [if_pos rfl]
    · rw [if_neg hjm]; exact h2 j (by omega)
theorem tru_mem {d : Dv} (hr : rightD d = true) {g : Nat → Int} : g ∈ truL (lookF d) ↔ (∀ k, k < d.m.toNat → g k ∈ votesF d k) ∧ ∀ k, d.m.toNat ≤ k → g k = 0 := by
  have hm := right_m hr
  constructor
  · intro h
    obtain ⟨h1, h2⟩ := trK_spec _ _ _ _ h
    refine ⟨fun k hk => ?_, fun k hk => h2 k (.inr (by show 0 + d.m.toNat ≤ k; omega))⟩
    have := h1 k (Nat.zero_le _) (by show k < 0 + d.m.toNat; omega)
    rwa [mayL, may_look hm.2 hk] at this
  · rintro ⟨h1, h2⟩
    refine trK_mem _ _ _ _ (fun j _ hj => ?_) (fun j hj => ?_)
    · have hj : j < 0 + d.m.toNat := hj
      rw [mayL, may_look hm.2 (by omega)]
      exact h1 j (by omega)
    · have hj : j < 0 ∨ 0 + d.m.toNat ≤ j := hj
      exact h2 j (by omega)

/-- A truth, as it is counted. -/
def Fit (d : Dv) (t : List Int) : Prop := (t.length : Int) = d.m ∧ ∀ k, k < t.length → t.getD k 0 ∈ votesF d k
theorem Fit.of {d : Dv} {t : List Int} (hr : rightD d = true) : ofF d (trT fun k => t.getD k 0) = ofF d t :=
  ofF_ext hr fun k hk => by have := right_m hr; exact trT_get (by omega)
theorem Fit.vote {d : Dv} {t : List Int} (h : Fit d t) : ∀ v ∈ t, v = 0 ∨ v = 1 ∨ v = 2 := fun v hv => by
  obtain ⟨k, hk, rfl⟩ := List.getElem_of_mem hv
  have := h.2 k hk
  rw [List.getD_eq_getElem?_getD, List.getElem?_eq_getElem hk] at this
  exact votes_012 this
theorem fault_clash {d : Dv} (h : faultF d = 0) : rightD d = true ∧ clashF d < 0 := by
  refine ⟨fault_right h, ?_⟩
  rw [faultF, fault_right h] at h
  simpa using h
theorem Fit.cnt {d : Dv} {t : List Int} (hf : faultF d = 0) (h : Fit d t) : cntE d t = 0 := by
  obtain ⟨hr, hc⟩ := fault_clash hf
  have h1 : votF d t = true := by
    simp only [votF, Bool.and_eq_true, decide_eq_true_eq, List.all_eq_true]
    exact ⟨h.1, fun v hv => by have := h.vote v hv; omega⟩
  have h2 : fitsF d t = true := by
    simp only [fitsF, List.all_eq_true, List.mem_range]
    exact fun k hk => by rw [fitF]; simpa using h.2 k hk
  rw [cntE, if_pos hr, if_pos h1, if_neg (by omega), if_pos h2]
theorem tru_fit {d : Dv} (hr : rightD d = true) {f : Nat → Int} (h : f ∈ truL (lookF d)) : Fit d ((List.range d.m.toNat).map f) := by
  have hm := right_m hr
  obtain ⟨h1, _⟩ := (tru_mem hr).1 h
  refine ⟨by simp; omega, fun k hk => ?_⟩
  have hk : k < d.m.toNat := by simpa using hk
  rw [List.getD_eq_getElem?_getD]
  simp [hk]
  exact h1 k hk
theorem allowed_mem {d : Dv} {o : Int} : o ∈ allowedF d ↔ o ∈ outsF d := by
  simp only [allowedF, List.mem_filter, List.mem_cons, List.not_mem_nil, or_false]
  constructor
  · rintro ⟨_, h⟩; simpa using h
  · intro h
    refine ⟨?_, by simpa using h⟩
    simp only [outsF, List.mem_map] at h
    obtain ⟨f, _, rfl⟩ := h
    exact outF_012 d _
end Go.Proofs.YtgpfejgohclheaaGreat

namespace Go.Proofs.YtgpfejgohclheaaGreat
open Go.Pal Go.ChangeShapes

theorem SlR.map {α β : Type} {k : Nat} {R : Hp → List Value → α → Prop} {R' : Hp → List Value → β → Prop} {G : Hp} {a : Option Addr} {n c : Nat} {l : List α} (f : α → β) (hf : ∀ cs x, R G cs x → R' G cs (f x)) (h : SlR k R G a n c l) : SlR k R' G a n c (l.map f) :=
  ⟨by rw [List.length_map, h.len], h.cap, h.some, fun i hi => by
    obtain ⟨cs, h1, h2, h3⟩ := h.at_ i (by simpa using hi)
    exact ⟨cs, h1, h2, by rw [List.getElem_map]; exact hf _ _ h3⟩⟩
theorem udl3 : Tryz.prog.underlying 3 = some (.int .i64) := by kernel_rfl
theorem udl5 : Tryz.prog.underlying 5 = some (.int .u8) := by kernel_rfl
theorem o3 : Opens Tryz.prog 3 (cdInt .i64) := .int udl3
theorem o5 : Opens Tryz.prog 5 (cdInt .u8) := .int udl5
theorem o4 : Opens Tryz.prog 4 cdBool := .bool (by kernel_rfl)
theorem o22 : Opens Tryz.prog 22 (cdSl (cdInt .i64)) := .slice (e := 3) (by kernel_rfl) o3 (by decide)
abbrev cdTwo := cdPair (cdSl (cdInt .i64)) (cdPair (cdSl (cdInt .i64)) cdUnit)
theorem o23 : Opens Tryz.prog 23 cdTwo := .two (e := 22) (by kernel_rfl) o22 (by kernel_rfl)
abbrev cdPr := cdPair (cdInt .i64) (cdPair (cdInt .i64) cdUnit)
theorem o82 : Opens Tryz.prog 68 cdPr := .struct (fs := [(3, 0), (3, 1)]) (by kernel_rfl) (by kernel_rfl) (OpensF.cons o3 (OpensF.cons o3 OpensF.nil))
theorem o83 : Opens Tryz.prog 88 cdPr := .struct (fs := [(3, 0), (3, 1)]) (by kernel_rfl) (by kernel_rfl) (OpensF.cons o3 (OpensF.cons o3 OpensF.nil))
theorem o24 : Opens Tryz.prog 24 (cdSl cdPr) := .slice (e := 68) (by kernel_rfl) o82 (by decide)
theorem o25 : Opens Tryz.prog 25 (cdSl cdPr) := .slice (e := 88) (by kernel_rfl) o83 (by decide)
abbrev cdDv := cdPair (cdInt .i64) (cdPair cdTwo (cdPair cdTwo (cdPair (cdSl cdPr) (cdPair (cdSl cdPr) (cdPair (cdInt .u8) (cdPair (cdInt .i64) (cdPair (cdInt .i64) (cdPair (cdInt .u8) cdUnit))))))))
theorem o27 : Opens Tryz.prog 27 cdDv := .struct (fs := [(3, 0), (23, 1), (23, 3), (24, 5), (25, 6), (5, 7), (3, 8), (3, 9), (5, 10)]) (by kernel_rfl) (by kernel_rfl) (OpensF.cons o3 (OpensF.cons o23 (OpensF.cons o23 (OpensF.cons o24 (OpensF.cons o25 (OpensF.cons o5 (OpensF.cons o3 (OpensF.cons o3 (OpensF.cons o5 OpensF.nil)))))))))
theorem pr_cd {G : Hp} {cs : List Value} {x} (h : cdPr.R G cs x) : prE.R G cs (x.1, x.2.1) := by
  obtain ⟨_, _, rfl, ⟨rfl, _⟩, _, _, rfl, ⟨rfl, _⟩, rfl⟩ := h; rfl
theorem dv_val {G : Hp} {v : Value} (h : ∃ x, VR cdDv true G v x) : ∃ d, DuV G v d ∧ rul d := by
  obtain ⟨x, cs, rfl, _, _, e, ⟨rfl, _⟩, _, _, rfl, ⟨_, _, rfl, ⟨a0, n0, c0, rfl, h0, _⟩, _, _, rfl, ⟨a1, n1, c1, rfl, h1, _⟩, rfl⟩, _, _, rfl, ⟨_, _, rfl, ⟨a2, n2, c2, rfl, h2, _⟩, _, _, rfl, ⟨a3, n3, c3, rfl, h3, _⟩, rfl⟩,
    _, _, rfl, ⟨a4, n4, c4, rfl, h4, _⟩, _, _, rfl, ⟨a5, n5, c5, rfl, h5, _⟩, _, _, rfl, ⟨rfl, hr⟩, _, _, rfl, ⟨rfl, _⟩, _, _, rfl, ⟨rfl, _⟩, _, _, rfl, ⟨rfl, _⟩, rfl⟩ := h
  have hi : ∀ (cs : List Value) x, (cdInt .i64).R G cs x → intE.R G cs (id x) := fun _ _ h => h.1
  refine ⟨⟨x.1, x.2.1.1, x.2.1.2.1, x.2.2.1.1, x.2.2.1.2.1, x.2.2.2.1.map fun p => (p.1, p.2.1), x.2.2.2.2.1.map fun p => (p.1, p.2.1), x.2.2.2.2.2.1, x.2.2.2.2.2.2.1, x.2.2.2.2.2.2.2.1, x.2.2.2.2.2.2.2.2.1⟩,
    ⟨.slice a0 n0 c0, .slice a1 n1 c1, .slice a2 n2 c2, .slice a3 n3 c3, .slice a4 n4 c4, .slice a5 n5 c5, ?_, ⟨a0, n0, c0, rfl, ?_⟩, ⟨a1, n1, c1, rfl, ?_⟩, ⟨a2, n2, c2, rfl, ?_⟩, ⟨a3, n3, c3, rfl, ?_⟩, ⟨a4, n4, c4, rfl, SlR.map _ (fun _ _ h => pr_cd h) h4⟩, ⟨a5, n5, c5, rfl, SlR.map _ (fun _ _ h => pr_cd h) h5⟩⟩, ?_⟩
  · simp at e
    exact congrArg Value.agg (Array.toList_inj.1 e)
  · have := SlR.map id hi h0; rwa [List.map_id] at this
  · have := SlR.map id hi h1; rwa [List.map_id] at this
  · have := SlR.map id hi h2; rwa [List.map_id] at this
  · have := SlR.map id hi h3; rwa [List.map_id] at this
  · simp only [inR] at hr
    exact ⟨hr.1, by have := hr.2; show _ ≤ _; omega⟩
theorem ownK : ownKnob Tryz.checked.prog.godebug = none := by kernel_rfl
theorem laidK : laidOutB Tryz.checked.prog = true := by kernel_rfl
theorem boolK : Tryz.checked.prog.underlying 4 = some .bool := by kernel_rfl
abbrev dv0 : Value := .agg #[.int .i64 0, .slice none 0 0, .slice none 0 0, .slice none 0 0, .slice none 0 0, .slice none 0 0, .slice none 0 0, .int .u8 0, .int .i64 0, .int .i64 0, .int .u8 0]
end Go.Proofs.YtgpfejgohclheaaGreat

namespace Go.Proofs.YtgpfejgohclheaaGreat
open Go.Pal
set_option maxRecDepth 100000
abbrev U32 (n : Int) : Value := .int .u32 n
def u32Rd : Rd Int := ⟨fun _ v x => v = U32 x, fun {_ _ _ _} h h' => by rw [h] at h'; cases h'; rfl, fun {_ _ _ _} _ h => h⟩
/-- The votes that a member may have, below one. -/
def vK (d : Dv) (m : Int) (v : Nat) : List Int := ((List.range v).filter fun i => mayF d m (i : Nat)).map Int.ofNat
theorem vK_succ (d : Dv) (m : Int) (v : Nat) : vK d m (v + 1) = if mayF d m v then vK d m v ++ [(v : Int)] else vK d m v := by
  simp only [vK, List.range_succ, List.filter_append, List.map_append]
  cases h : mayF d m v <;> simp [List.filter, h]
theorem vK_votes (d : Dv) (m : Int) : vK d m 3 = votesF d m := by
  rw [vK_succ, vK_succ, vK_succ]
  have h0 : vK d m 0 = [] := rfl
  rw [h0, votesF]
  show (if mayF d m 2 = true then (if mayF d m 1 = true then (if mayF d m 0 = true then [] ++ [(0 : Int)] else []) ++ [(1 : Int)] else (if mayF d m 0 = true then [] ++ [(0 : Int)] else [])) ++ [(2 : Int)] else (if mayF d m 1 = true then (if mayF d m 0 = true then [] ++ [(0 : Int)] else []) ++ [(1 : Int)] else (if mayF d m 0 = true then [] ++ [(0 : Int)] else []))) = _
  cases mayF d m 0 <;> cases mayF d m 1 <;> cases mayF d m 2 <;> rfl
theorem vK_len (d : Dv) (m : Int) (v : Nat) : (vK d m v).length ≤ v := by
  simp only [vK, List.length_map]
  exact Nat.le_trans (List.length_filter_le _ _) (by simp)
/-- The votes that are chosen so far fit. -/
def ChK (d : Dv) (t : List Int) (m : Nat) : Prop := t.length = m ∧ ∀ k, k < m → t.getD k 0 ∈ votesF d k
theorem ChK.snoc {d : Dv} {t : List Int} {m : Nat} (h : ChK d t m) {x : Int} (hx : x ∈ votesF d m) : ChK d (t ++ [x]) (m + 1) := by
  obtain ⟨h1, h2⟩ := h
  refine ⟨by simp [h1], fun k hk => ?_⟩
  rw [List.getD_eq_getElem?_getD]
  by_cases hkm : k < m
  · rw [List.getElem?_append_left (by omega), ← List.getD_eq_getElem?_getD]
    exact h2 k hkm
  · have : k = t.length := by omega
    subst this
    rw [List.getElem?_concat_length]
    rw [h1]; exact hx
theorem votes_ne {d : Dv} (hf : faultF d = 0) {m : Nat} (hm : m < d.m.toNat) : votesF d m ≠ [] := by
  obtain ⟨hr, hc⟩ := fault_clash hf
  obtain ⟨g, hg⟩ := List.exists_mem_of_ne_nil _ (numbers_ne hf)
  have := ((tru_mem hr).1 hg).1 m hm
  intro h
  rw [h] at this
  cases this
def tabCh7 : Tab Tryz.prog := Tab.cons 54 _ may44 body54 (Tab.nil _)
theorem chosen31 : Sound Tryz.prog 31 id (grel (args2 dvRd u32Rd fun d w => faultF d = 0 ∧ 0 ≤ w ∧ w ≤ 4294967295) fun x v G => ∃ t, Fit x.1 t ∧ SlV u8E G v t) := by
  refine comp31.grel tabCh7 (ok2 _ _ _) (fun args G s h => ?_) (fun x v G G' hg ⟨t, h1, h2⟩ => ⟨t, h1, h2.grow hg⟩) (fun args G x h => ?_)
  · obtain ⟨v, w, rfl, _⟩ := h; simp
  · obtain ⟨d, w0⟩ := x
    obtain ⟨u, v, rfl, ⟨w0', w1, w2, w3, w4, w5, rfl, hd⟩, rfl, hf, hw0, hw1⟩ := h
    dsimp only at hd hf hw0 hw1
    have hm := fault_m hf
    have hd0 := hd
    obtain ⟨x0, y0, z0, rfl, la0, ya0⟩ := id hd.a0
    obtain ⟨x1, y1, z1, rfl, la1, ya1⟩ := id hd.a1
    obtain ⟨x2, y2, z2, rfl, ln0, yn0⟩ := id hd.n0
    obtain ⟨x3, y3, z3, rfl, ln1, yn1⟩ := id hd.n1
    obtain ⟨x4, y4, z4, rfl, lps, yps⟩ := id hd.ps
    obtain ⟨x5, y5, z5, rfl, lqs, yqs⟩ := id hd.qs
    dsimp only
    (conv => whnf)
    refine LoopP.of { α := Nat × Int × Nat × List Int × List Value, fr := fun x => [(1, .v (U32 x.2.1)), (2, .c (.ptr 0 0)), (5, .c (.row 2 x.2.2.1)), (6, .v (I x.1))], H := fun x => [(0, .cells .anon (DVC d x0 x1 x2 x3 x4 x5 y0 z0 y1 z1 y2 z2 y3 z3 y4 z4 y5 z5) 27), (2, .row none x.2.2.1 x.2.2.2.2 5 1)], ok := fun x _ => x.1 ≤ d.m.toNat ∧ (0 ≤ x.2.1 ∧ x.2.1 ≤ 4294967295) ∧ Row u8E x.2.2.2.1 x.2.2.1 x.2.2.2.2 ∧ ChK d x.2.2.2.1 x.1, m := fun x => d.m.toNat - x.1 }
      (0, w0, 0, [], []) (HeadP.of [(2, none)] ⟨rfl, rfl, rfl, rfl, trivial⟩ ⟨rfl, rfl, trivial⟩) ⟨Nat.zero_le _, ⟨hw0, hw1⟩, Row.nil, rfl, fun k hk => by omega⟩ (fun _ => ⟨rfl, rfl⟩) (fun x G' hG hx => W.mk ?_)
    obtain ⟨i, w, n, t, vs⟩ := x
    obtain ⟨hi, ⟨hwa, hwb⟩, hr, hch⟩ := hx
    dsimp only at hi hwa hwb hr hch
    have hd1 := hd0.grow hG
    have hnl := hr.n
    have htl := hch.1
    dsimp only
    (conv => whnf)
    refine IteP.mk (fun hlt => W.mk ?_) (fun hge => W.mk ?_) <;> (conv => whnf)
    · have hlt : i < d.m.toNat := by omega
      refine LoopP.of { α := Nat × Nat × List Value, fr := fun x => [(1, .v (U32 w)), (2, .c (.ptr 0 0)), (5, .c (.row 2 n)), (6, .v (I i)), (7, .c (.row 8 x.2.1)), (8, .v (I x.1))], H := fun x => [(0, .cells .anon (DVC d x0 x1 x2 x3 x4 x5 y0 z0 y1 z1 y2 z2 y3 z3 y4 z4 y5 z5) 27), (2, .row none n vs 5 1), (8, .row none x.2.1 x.2.2 5 1)], ok := fun x _ => x.1 ≤ 3 ∧ Row u8E (vK d i x.1) x.2.1 x.2.2, m := fun x => 3 - x.1 }
        (0, 0, []) (HeadP.of [(8, none)] ⟨rfl, rfl, rfl, rfl, rfl, rfl, trivial⟩ ⟨rfl, rfl, rfl, trivial⟩) ⟨Nat.zero_le _, Row.nil⟩ (fun _ => ⟨rfl, rfl⟩) (fun x G2 hG2 hx => W.mk ?_)
      obtain ⟨v, mn, ms⟩ := x
      obtain ⟨hv3, hmr⟩ := hx
      dsimp only at hv3 hmr
      have hd2 := hd1.grow hG2
      have hml := hmr.n
      have hvl := vK_len d i v
      dsimp only
      (conv => whnf)
      refine IteP.mk (fun hv => W.mk ?_) (fun hv => W.mk ?_) <;> (conv => whnf)
      · repeat' (refine OblP.mk ?_ (W.mk ?_); (first | trivial | omega | (simp only [inR]; omega) | exact Nat.le_of_ble_eq_true (by rfl) | exact SlR.some (by assumption) (by omega)); (conv => whnf))
        refine ScaP.g (ok3 dvRd intRd u8Rd fun _ _ _ => True) (x := (d, (i : Int), (v : Int))) ⟨_, _, _, rfl, ⟨_, _, _, _, _, _, rfl, hd2⟩, rfl, rfl, trivial⟩ (fun v hv => W.mk ?_)
        subst hv
        dsimp only
        (conv => whnf)
        refine ForkP.mk (fun hq => W.mk ?_) (fun hq => W.mk ?_) <;> (conv => whnf)
        · repeat' (refine OblP.mk ?_ (W.mk ?_); (first | trivial | omega | (simp only [inR]; omega) | exact Nat.le_of_ble_eq_true (by rfl) | exact SlR.some (by assumption) (by omega)); (conv => whnf))
          refine RoundP.of (v + 1, mn + 1, ms ++ [U v]) (HeadP.of [(8, some 21)] ⟨rfl, rfl, rfl, rfl, rfl, rfl, trivial⟩ ⟨rfl, rfl, rfl, trivial⟩) ⟨by show v + 1 ≤ 3; omega, ?_⟩ (by simp only; omega)
          rw [vK_succ, if_pos hq]
          exact hmr.snoc (v : Int)
        · repeat' (refine OblP.mk ?_ (W.mk ?_); (first | trivial | omega | (simp only [inR]; omega) | exact Nat.le_of_ble_eq_true (by rfl) | exact SlR.some (by assumption) (by omega)); (conv => whnf))
          refine RoundP.of (v + 1, mn, ms) (HeadP.of [] ⟨rfl, rfl, rfl, rfl, rfl, rfl, trivial⟩ ⟨rfl, rfl, rfl, trivial⟩) ⟨by show v + 1 ≤ 3; omega, ?_⟩ (by simp only; omega)
          rw [vK_succ, if_neg (by rw [hq]; simp)]
          exact hmr
      · have : v = 3 := by omega
        subst this
        rw [vK_votes] at hmr
        have hmne := List.length_pos_iff.2 (votes_ne hf hlt)
        have hmn : mn = (votesF d i).length := hmr.n
        have hw3 := Int.emod_nonneg w (show (mn : Int) ≠ 0 by omega)
        have hw4 := Int.emod_lt_of_pos w (show 0 < (mn : Int) by omega)
        refine IteP.mk (fun h1 => W.mk ?_) (fun h1 => W.mk ?_) <;> (conv => whnf)
        · repeat' (refine OblP.mk ?_ (W.mk ?_); (first | trivial | omega | (simp only [inR]; omega) | exact Nat.le_of_ble_eq_true (by rfl) | exact SlR.some (by assumption) (by omega)); (conv => whnf))
          have hk : (w % (mn : Int)).toNat < (votesF d i).length := by omega
          refine EqP.row hmr (i := (w % (mn : Int)).toNat) hk (W.mk ?_)
          (conv => whnf)
          repeat' (refine OblP.mk ?_ (W.mk ?_); (first | trivial | omega | (simp only [inR]; omega) | exact Nat.le_of_ble_eq_true (by rfl) | exact SlR.some (by assumption) (by omega)); (conv => whnf))
          refine RoundP.of (i + 1, (w / 3), n + 1, t ++ [(votesF d i)[(w % (mn : Int)).toNat]'hk], vs ++ [U ((votesF d i)[(w % (mn : Int)).toNat]'hk)]) (HeadP.of [(2, some 45)] ⟨rfl, rfl, rfl, rfl, trivial⟩ ⟨rfl, rfl, trivial⟩) ⟨hlt, ⟨by simp only; omega, by simp only; omega⟩, hr.snoc _, hch.snoc (List.getElem_mem _)⟩ (by simp only; omega)
        · repeat' (refine OblP.mk ?_ (W.mk ?_); (first | trivial | omega | (simp only [inR]; omega) | exact Nat.le_of_ble_eq_true (by rfl) | exact SlR.some (by assumption) (by omega)); (conv => whnf))
          have hk : 0 < (votesF d i).length := by omega
          refine EqP.row hmr (i := 0) hk (W.mk ?_)
          (conv => whnf)
          repeat' (refine OblP.mk ?_ (W.mk ?_); (first | trivial | omega | (simp only [inR]; omega) | exact Nat.le_of_ble_eq_true (by rfl) | exact SlR.some (by assumption) (by omega)); (conv => whnf))
          refine RoundP.of (i + 1, w, n + 1, t ++ [(votesF d i)[0]'hk], vs ++ [U ((votesF d i)[0]'hk)]) (HeadP.of [(2, some 45)] ⟨rfl, rfl, rfl, rfl, trivial⟩ ⟨rfl, rfl, trivial⟩) ⟨hlt, ⟨by simp only; omega, by simp only; omega⟩, hr.snoc _, hch.snoc (List.getElem_mem _)⟩ (by simp only; omega)
    · have : i = d.m.toNat := by omega
      subst this
      refine PubP.mk (fun a1 c1 G1 hg1 hp => W.mk ?_)
      (conv => whnf)
      exact FinP.mk ⟨t, ⟨by omega, fun k hk => hch.2 k (by omega)⟩, hr.pub hp (by omega)⟩
end Go.Proofs.YtgpfejgohclheaaGreat

namespace Go.Proofs.YtgpfejgohclheaaGreat
open Go.Pal
set_option maxRecDepth 100000
def readyF (d : Dv) : Bool := fewF d && decide (openF d = 0)
def tabRdy : Tab Tryz.prog := Tab.cons 22 _ few20u body22 (Tab.cons 16 _ open17 body16 (Tab.nil _))
theorem ready30 : Sound Tryz.prog 30 id (gsca (args1 duRd fun _ => True) fun d v => v = .bool (readyF d)) := by
  refine comp30.gsca tabRdy (fun args G s h => ?_) (fun args G d h => ?_)
  · obtain ⟨v, rfl, _⟩ := h; simp
  · obtain ⟨u, rfl, ⟨w0, w1, w2, w3, w4, w5, rfl, hd⟩, _⟩ := h
    have hdv : DuV G _ d := ⟨_, _, _, _, _, _, rfl, hd⟩
    obtain ⟨x0, y0, z0, rfl, la0⟩ := id hd.a0
    obtain ⟨x1, y1, z1, rfl, la1⟩ := id hd.a1
    obtain ⟨x2, y2, z2, rfl, ln0⟩ := id hd.n0
    obtain ⟨x3, y3, z3, rfl, ln1⟩ := id hd.n1
    obtain ⟨x4, y4, z4, rfl, lps⟩ := id hd.ps
    obtain ⟨x5, y5, z5, rfl, lqs⟩ := id hd.qs
    (conv => whnf)
    refine ScaP.g (ok1 duRd fun _ => True) (x := d) ⟨_, rfl, hdv, trivial⟩ (fun v hv => W.mk ?_)
    subst hv
    (conv => whnf)
    refine ForkP.mk (fun hf => W.mk ?_) (fun hf => W.mk ?_) <;> (conv => whnf)
    · refine ScaP.g (ok1 dvRd fun _ => True) (x := d) ⟨_, rfl, hdv.v hf, trivial⟩ (fun v hv => W.mk ?_)
      subst hv
      (conv => whnf)
      repeat' (first | (refine IteP.mk (fun _ => W.mk ?_) (fun _ => W.mk ?_) <;> (conv => whnf)) | (refine FinP.mk ?_))
      all_goals (refine congrArg Value.bool ?_; simp [readyF, *])
    · refine FinP.mk ?_
      refine congrArg Value.bool ?_
      simp [readyF, hf]
end Go.Proofs.YtgpfejgohclheaaGreat

namespace Go.Proofs.YtgpfejgohclheaaGreat
open Go.Pal
set_option maxRecDepth 100000
theorem ready_fault {d : Dv} (h : readyF d = true) : fewF d = true ∧ openF d = 0 ∧ faultF d = 0 := by
  simp only [readyF, Bool.and_eq_true, decide_eq_true_eq] at h
  exact ⟨h.1, h.2, (open_fault h.2).1⟩
end Go.Proofs.YtgpfejgohclheaaGreat

namespace Go.Proofs.YtgpfejgohclheaaGreat
open Go.Pal
set_option maxRecDepth 100000
set_option maxHeartbeats 1000000
def tabTh : Tab Tryz.prog := Tab.cons 30 _ ready30 body30 (Tab.cons 11 _ wakes10 body11 (Tab.cons 13 _ div12 body13 (Tab.cons 31 _ chosen31 body31 (Tab.cons 23 _ count34 body23 (Tab.cons 32 _ allowed23 body32 (Tab.cons 33 _ bounds13 body33 (Tab.nil _)))))))
end Go.Proofs.YtgpfejgohclheaaGreat

namespace Go.Proofs.YtgpfejgohclheaaGreat
open Go.Pal
set_option maxRecDepth 100000
theorem truth25 : Sound Tryz.prog 25 id (gsca (args2 dvRd (slRd u8E) fun _ _ => True) fun x v => v = .bool (votF x.1 x.2)) := by
  refine comp25.gsca (Tab.nil _) (fun args G s h => ?_) (fun args G x h => ?_)
  · obtain ⟨v, w, rfl, _⟩ := h; simp
  · obtain ⟨d, t⟩ := x
    obtain ⟨u, v, rfl, ⟨w0, w1, w2, w3, w4, w5, rfl, hd⟩, ⟨a, n, c, rfl, hl, hn⟩, _⟩ := h
    dsimp only at hd hl
    obtain ⟨x0, y0, z0, rfl, la0, ya0⟩ := id hd.a0
    obtain ⟨x1, y1, z1, rfl, la1, ya1⟩ := id hd.a1
    obtain ⟨x2, y2, z2, rfl, ln0, yn0⟩ := id hd.n0
    obtain ⟨x3, y3, z3, rfl, ln1, yn1⟩ := id hd.n1
    obtain ⟨x4, y4, z4, rfl, lps, yps⟩ := id hd.ps
    obtain ⟨x5, y5, z5, rfl, lqs, yqs⟩ := id hd.qs
    have hlen := hl.len
    (try dsimp only)
    (conv => whnf)
    refine LoopP.of { α := Nat, fr := fun x => [(1, .v (.slice a n c)), (2, .c (.ptr 0 0)), (5, .v (I x))], H := fun _ => [(0, .cells .anon (DVC d x0 x1 x2 x3 x4 x5 y0 z0 y1 z1 y2 z2 y3 z3 y4 z4 y5 z5) 27)], ok := fun i _ => i ≤ n ∧ ∀ k, k < i → t.getD k 0 ≤ 2, m := fun x => n - x }
      0 (HeadP.of [] ⟨rfl, rfl, rfl, trivial⟩ ⟨rfl, trivial⟩) ⟨Nat.zero_le _, fun k hk => by omega⟩ (fun _ => ⟨rfl, rfl⟩) (fun (i : Nat) G' hG hx => W.mk ?_)
    obtain ⟨hi, hx⟩ := hx
    have hl := SlR.grow (G := G) (G' := G') (fun _ _ h => h) hl hG
    (try dsimp only at hi hx)
    (try dsimp only)
    (conv => whnf)
    refine IteP.mk (fun hlt => W.mk ?_) (fun hge => W.mk ?_) <;> (conv => whnf)
    · have hlt : i < t.length := by omega
      have hc := hl.el hlt
      have hg : t.getD i 0 = t[i] := by simp [hlt]
      repeat' (first | (refine OblP.mk ?_ (W.mk ?_); (first | trivial | omega | (simp only [inR]; omega) | exact Nat.le_of_ble_eq_true (by rfl) | exact SlR.some (by assumption) (by omega)); (conv => whnf)) | (first | (refine RdP.at (by assumption) (by rfl) (W.mk ?_); (conv => whnf)) | (refine RdP.sub (by assumption) (by rfl) (W.mk ?_); (conv => whnf)) | (refine RdP.sub2 (by assumption) (by rfl) (W.mk ?_); (conv => whnf)) | (refine RdP.sub3 (by assumption) (by rfl) (W.mk ?_); (conv => whnf))))
      refine IteP.mk (fun h => W.mk ?_) (fun h => W.mk ?_) <;> (conv => whnf)
      · refine FinP.mk ?_
        refine congrArg Value.bool ?_
        symm
        rw [votF, Bool.and_eq_false_iff]
        refine .inr ?_
        rw [List.all_eq_false]
        exact ⟨t[i], List.getElem_mem _, by simp; omega⟩
      · repeat' (refine OblP.mk ?_ (W.mk ?_); (first | trivial | omega | (simp only [inR]; omega) | exact Nat.le_of_ble_eq_true (by rfl) | exact SlR.some (by assumption) (by omega)); (conv => whnf))
        refine RoundP.of (i + 1) (HeadP.of [] ⟨rfl, rfl, rfl, trivial⟩ ⟨rfl, trivial⟩) ⟨by show i + 1 ≤ n; omega, fun k hk => ?_⟩ (by simp only; omega)
        by_cases hki : k < i
        · exact hx k hki
        · have : k = i := by omega
          subst this
          rw [hg]; omega
    · have : i = t.length := by omega
      subst this
      have hall : t.all (fun v => decide (v ≤ 2)) = true := by
        rw [List.all_eq_true]
        intro v hv
        obtain ⟨k, hk, rfl⟩ := List.getElem_of_mem hv
        have := hx k hk
        simp [hk] at this
        simpa using this
      refine IteP.mk (fun h => W.mk ?_) (fun h => W.mk ?_) <;> (conv => whnf) <;> refine FinP.mk ?_ <;> refine congrArg Value.bool ?_ <;> symm
      · rw [votF, hall, Bool.and_true, decide_eq_true_eq, hlen]; exact h
      · rw [votF, hall, Bool.and_true, decide_eq_false_iff_not, hlen]; exact h
theorem may_votes (d : Dv) (m v : Int) : mayF d m v = (votesF d m).contains v := by
  by_cases h0 : v = 0
  · subst h0; rw [votesF]; cases mayF d m 0 <;> cases mayF d m 1 <;> cases mayF d m 2 <;> rfl
  by_cases h1 : v = 1
  · subst h1; rw [votesF]; cases mayF d m 0 <;> cases mayF d m 1 <;> cases mayF d m 2 <;> rfl
  by_cases h2 : v = 2
  · subst h2; rw [votesF]; cases mayF d m 0 <;> cases mayF d m 1 <;> cases mayF d m 2 <;> rfl
  · have e1 : mayF d m v = false := by simp [mayF, h0, h1, h2]
    rw [e1]
    symm
    rw [List.contains_eq_mem, decide_eq_false_iff_not]
    intro h
    have := votes_012 h
    omega
/-- Does a truth fit? -/
def fitsM (d : Dv) (t : List Int) : Bool := (List.range d.m.toNat).all (fitF d t)
theorem fits27 : Sound Tryz.prog 27 id (gsca (args2 dvRd (slRd u8E) fun d t => d.m ≤ t.length ∧ d.m ≤ 40) fun x v => v = .bool (fitsM x.1 x.2)) := by
  refine comp27.gsca tabCh7 (fun args G s h => ?_) (fun args G x h => ?_)
  · obtain ⟨v, w, rfl, _⟩ := h; simp
  · obtain ⟨d, t⟩ := x
    obtain ⟨u, v, rfl, ⟨w0, w1, w2, w3, w4, w5, rfl, hd⟩, ⟨a, n, c, rfl, hl, hn⟩, hm, hm40⟩ := h
    dsimp only at hd hl hm hm40
    have hd0 := hd
    obtain ⟨x0, y0, z0, rfl, la0, ya0⟩ := id hd.a0
    obtain ⟨x1, y1, z1, rfl, la1, ya1⟩ := id hd.a1
    obtain ⟨x2, y2, z2, rfl, ln0, yn0⟩ := id hd.n0
    obtain ⟨x3, y3, z3, rfl, ln1, yn1⟩ := id hd.n1
    obtain ⟨x4, y4, z4, rfl, lps, yps⟩ := id hd.ps
    obtain ⟨x5, y5, z5, rfl, lqs, yqs⟩ := id hd.qs
    have hlen := hl.len
    (try dsimp only)
    (conv => whnf)
    refine LoopP.of { α := Nat, fr := fun x => [(1, .v (.slice a n c)), (2, .c (.ptr 0 0)), (5, .v (I x))], H := fun _ => [(0, .cells .anon (DVC d x0 x1 x2 x3 x4 x5 y0 z0 y1 z1 y2 z2 y3 z3 y4 z4 y5 z5) 27)], ok := fun i _ => i ≤ d.m.toNat ∧ ∀ k, k < i → fitF d t k = true, m := fun x => d.m.toNat - x }
      0 (HeadP.of [] ⟨rfl, rfl, rfl, trivial⟩ ⟨rfl, trivial⟩) ⟨Nat.zero_le _, fun k hk => by omega⟩ (fun _ => ⟨rfl, rfl⟩) (fun (i : Nat) G' hG hx => W.mk ?_)
    obtain ⟨hi, hx⟩ := hx
    have hl := SlR.grow (G := G) (G' := G') (fun _ _ h => h) hl hG
    (try dsimp only at hi hx)
    (try dsimp only)
    (conv => whnf)
    refine IteP.mk (fun hlt => W.mk ?_) (fun hge => W.mk ?_) <;> (conv => whnf)
    · have hlt : i < t.length := by omega
      have hc := hl.el hlt
      have hg : fitF d t i = mayF d i t[i] := by rw [fitF, may_votes, show t.getD i 0 = t[i] by simp [hlt]]
      repeat' (first | (refine OblP.mk ?_ (W.mk ?_); (first | trivial | omega | (simp only [inR]; omega) | exact Nat.le_of_ble_eq_true (by rfl) | exact SlR.some (by assumption) (by omega)); (conv => whnf)) | (first | (refine RdP.at (by assumption) (by rfl) (W.mk ?_); (conv => whnf)) | (refine RdP.sub (by assumption) (by rfl) (W.mk ?_); (conv => whnf)) | (refine RdP.sub2 (by assumption) (by rfl) (W.mk ?_); (conv => whnf)) | (refine RdP.sub3 (by assumption) (by rfl) (W.mk ?_); (conv => whnf))))
      refine ScaP.g (ok3 dvRd intRd u8Rd fun _ _ _ => True) (x := (d, (i : Int), t[i])) ⟨_, _, _, rfl, ⟨_, _, _, _, _, _, rfl, hd0.grow hG⟩, rfl, rfl, trivial⟩ (fun v hv => W.mk ?_)
      subst hv
      dsimp only
      rw [← hg]
      (conv => whnf)
      refine ForkP.mk (fun hq => W.mk ?_) (fun hq => W.mk ?_) <;> (conv => whnf)
      · repeat' (refine OblP.mk ?_ (W.mk ?_); (first | trivial | omega | (simp only [inR]; omega) | exact Nat.le_of_ble_eq_true (by rfl) | exact SlR.some (by assumption) (by omega)); (conv => whnf))
        refine RoundP.of (i + 1) (HeadP.of [] ⟨rfl, rfl, rfl, trivial⟩ ⟨rfl, trivial⟩) ⟨by show i + 1 ≤ d.m.toNat; omega, fun k hk => ?_⟩ (by simp only; omega)
        by_cases hki : k < i
        · exact hx k hki
        · have : k = i := by omega
          subst this
          exact hq
      · refine FinP.mk ?_
        refine congrArg Value.bool ?_
        symm
        rw [fitsM, List.all_eq_false]
        exact ⟨i, List.mem_range.2 (by omega), by rw [hq]; simp⟩
    · refine FinP.mk ?_
      refine congrArg Value.bool ?_
      symm
      rw [fitsM, List.all_eq_true]
      exact fun k hk => hx k (by have := List.mem_range.1 hk; omega)
end Go.Proofs.YtgpfejgohclheaaGreat

namespace Go.Proofs.YtgpfejgohclheaaGreat
open Go.Pal
set_option maxRecDepth 100000
/-- How many outcomes below one are allowed. -/
def kA (d : Dv) (o : Nat) : Nat := ((([0, 1, 2] : List Int).take o).filter fun o => (outsF d).contains o).length
theorem kA_in {d : Dv} {o : Nat} (ho : o < 3) (h : (outsF d).contains (o : Int) = true) : ∃ hk : kA d o < (allowedF d).length, (allowedF d)[kA d o] = (o : Int) ∧ kA d (o + 1) = kA d o + 1 := by
  have e1 : allowedF d = (if (outsF d).contains 0 then [0] else []) ++ (if (outsF d).contains 1 then [1] else []) ++ (if (outsF d).contains 2 then [2] else []) := by
    unfold allowedF; simp only [List.filter]; cases (outsF d).contains 0 <;> cases (outsF d).contains 1 <;> cases (outsF d).contains 2 <;> rfl
  have ke : ∀ o, o < 4 → kA d o = (if 0 < o ∧ (outsF d).contains 0 then 1 else 0) + (if 1 < o ∧ (outsF d).contains 1 then 1 else 0) + (if 2 < o ∧ (outsF d).contains 2 then 1 else 0) := by
    intro o ho
    rcases (by omega : o = 0 ∨ o = 1 ∨ o = 2 ∨ o = 3) with rfl | rfl | rfl | rfl <;> unfold kA <;> simp only [List.take, List.filter] <;> cases (outsF d).contains 0 <;> cases (outsF d).contains 1 <;> cases (outsF d).contains 2 <;> rfl
  have a1 := ke o (by omega)
  have a2 := ke (o + 1) (by omega)
  generalize kA d o = k1 at *
  generalize kA d (o + 1) = k2 at *
  generalize allowedF d = al at *
  subst a1; subst a2; subst e1
  rcases (by omega : o = 0 ∨ o = 1 ∨ o = 2) with rfl | rfl | rfl
  · have h : (outsF d).contains 0 = true := h
    rw [h]
    cases (outsF d).contains 1 <;> cases (outsF d).contains 2 <;> exact ⟨by decide, rfl, rfl⟩
  · have h : (outsF d).contains 1 = true := h
    rw [h]
    cases (outsF d).contains 0 <;> cases (outsF d).contains 2 <;> exact ⟨by decide, rfl, rfl⟩
  · have h : (outsF d).contains 2 = true := h
    rw [h]
    cases (outsF d).contains 0 <;> cases (outsF d).contains 1 <;> exact ⟨by decide, rfl, rfl⟩
theorem kA_out {d : Dv} {o : Nat} (ho : o < 3) (h : (outsF d).contains (o : Int) = false) : kA d (o + 1) = kA d o ∧ ∀ hk : kA d o < (allowedF d).length, (allowedF d)[kA d o] ≠ (o : Int) := by
  refine ⟨?_, fun hk he => ?_⟩
  · rcases (by omega : o = 0 ∨ o = 1 ∨ o = 2) with rfl | rfl | rfl
    · have h : (outsF d).contains 0 = false := h
      simp only [kA, List.take, List.filter, h]
    · have h : (outsF d).contains 1 = false := h
      cases h0 : (outsF d).contains 0 <;> simp only [kA, List.take, List.filter, h0, h]
    · have h : (outsF d).contains 2 = false := h
      cases h0 : (outsF d).contains 0 <;> cases h1 : (outsF d).contains 1 <;> simp only [kA, List.take, List.filter, h0, h1, h]
  · have := allowed_mem.1 (he ▸ List.getElem_mem hk)
    rw [← List.contains_iff_mem, h] at this
    cases this
theorem kA_all (d : Dv) : kA d 3 = (allowedF d).length := rfl
theorem kA_le (d : Dv) (o : Nat) : kA d o ≤ (allowedF d).length := by
  unfold kA allowedF
  exact (List.Sublist.filter _ (List.take_sublist o _)).length_le
theorem alw_len {d : Dv} (hf : faultF d = 0) : 1 ≤ (allowedF d).length ∧ (allowedF d).length ≤ 3 := by
  refine ⟨?_, Nat.le_trans (List.length_filter_le _ _) (Nat.le_refl _)⟩
  obtain ⟨g, hg⟩ := List.exists_mem_of_ne_nil _ (numbers_ne hf)
  exact List.length_pos_of_mem (allowed_mem.2 (List.mem_map.2 ⟨g, hg, rfl⟩))
theorem wt_some {d : Dv} {o : Int} : (wtF d o).isSome = (outsF d).contains o := by
  rw [wtF, Bool.eq_iff_iff, List.find?_isSome]
  simp [outsF, outT]
theorem wt_none {d : Dv} {o : Int} (ho : o ≤ 2) (hr : rightD d = true) (hop : openF d = 0) : witE d o = if (outsF d).contains o then 0 else 7 := by
  rw [witE, if_pos hr, if_neg (by omega), if_pos hop, wt_some]
theorem wit_fit {d : Dv} {o : Int} (hr : rightD d = true) (h : (outsF d).contains o = true) : Fit d (witL d o) ∧ outF d (ofF d (witL d o)) = o := by
  rw [← wt_some] at h
  obtain ⟨f, hf⟩ := Option.isSome_iff_exists.1 h
  have hm := List.mem_of_find?_eq_some hf
  have hp := List.find?_some hf
  have he : witL d o = (List.range d.m.toNat).map f := by rw [witL, hf]
  have hfit : Fit d (witL d o) := by rw [he]; exact tru_fit hr hm
  refine ⟨hfit, ?_⟩
  have : ofF d (witL d o) = ofF d (trT f) := by
    rw [he]
    refine ofF_ext hr fun k hk => ?_
    have := right_m hr
    rw [trT_get (by omega), List.getD_eq_getElem?_getD]
    simp [hk]
  rw [this]
  simpa [outT] using hp
theorem Fit.vot {d : Dv} {t : List Int} (h : Fit d t) : votF d t = true := by
  simp only [votF, Bool.and_eq_true, decide_eq_true_eq, List.all_eq_true]
  exact ⟨h.1, fun v hv => by have := h.vote v hv; omega⟩
theorem Fit.fitM {d : Dv} {t : List Int} (h : Fit d t) : fitsM d t = true := by
  simp only [fitsM, List.all_eq_true, List.mem_range]
  have := h.1
  exact fun k hk => by rw [fitF]; simpa using h.2 k (by omega)
def tabWi : Tab Tryz.prog := Tab.cons 25 _ truth25 body25 (Tab.cons 27 _ fits27 body27 (Tab.cons 37 _ wit31 body37 tabTh))
set_option maxHeartbeats 1000000
theorem law9z : Sound Tryz.prog 9 id (gsca (args1 duRd fun d => rul d) fun _ v => v = .bool true) := by
  refine comp9.gsca tabWi (fun args G s h => ?_) (fun args G d h => ?_)
  · obtain ⟨v, rfl, _⟩ := h; simp
  · obtain ⟨u, rfl, ⟨w0, w1, w2, w3, w4, w5, rfl, hd⟩, hr⟩ := h
    have hdv : DuV G _ d := ⟨_, _, _, _, _, _, rfl, hd⟩
    obtain ⟨x0, y0, z0, rfl, la0⟩ := id hd.a0
    obtain ⟨x1, y1, z1, rfl, la1⟩ := id hd.a1
    obtain ⟨x2, y2, z2, rfl, ln0⟩ := id hd.n0
    obtain ⟨x3, y3, z3, rfl, ln1⟩ := id hd.n1
    obtain ⟨x4, y4, z4, rfl, lps⟩ := id hd.ps
    obtain ⟨x5, y5, z5, rfl, lqs⟩ := id hd.qs
    (try dsimp only)
    (conv => whnf)
    refine ScaP.g (ok1 duRd fun _ => True) (x := d) ⟨_, rfl, hdv, trivial⟩ (fun v hv => W.mk ?_)
    subst hv
    (conv => whnf)
    refine ForkP.mk (fun hfw => W.mk ?_) (fun hfw => W.mk ?_) <;> (conv => whnf)
    rotate_left
    · refine ScaP.g okU (x := ()) rfl (fun v hv => W.mk ?_)
      subst hv
      (conv => whnf)
      refine ForkP.mk (fun _ => W.mk ?_) (fun h => by cases h)
      (conv => whnf)
      exact FinP.mk rfl
    obtain ⟨hfw, hop, hfa⟩ := ready_fault hfw
    have hdv := hdv.v hfw
    have hg0 := Grow.refl G
    refine RelP.g (ok1 dvRd fun d => fewF d = true) (x := d) ⟨_, rfl, dvRd.grow hg0 hdv, hfw⟩ (Grow.refl _) (fun v G1 h1 hq => W.mk ?_)
    have hg1 := hg0.trans h1
    have hd1 := hq
    obtain ⟨_, _, _, _, _, _, rfl, hq⟩ := hq
    obtain ⟨xx0, yy0, zz0, rfl, _, _⟩ := id hq.a0
    obtain ⟨xx1, yy1, zz1, rfl, _, _⟩ := id hq.a1
    obtain ⟨xx2, yy2, zz2, rfl, _, _⟩ := id hq.n0
    obtain ⟨xx3, yy3, zz3, rfl, _, _⟩ := id hq.n1
    obtain ⟨xx4, yy4, zz4, rfl, _, _⟩ := id hq.ps
    obtain ⟨xx5, yy5, zz5, rfl, _, _⟩ := id hq.qs
    (conv => whnf)
    refine RelP.g (ok1 dvRd rul) (x := d) ⟨_, rfl, hd1, hr⟩ (Grow.refl _) (fun v G2 h2 hq => W.mk ?_)
    obtain ⟨w, rfl, aw, nw, cw, rfl, hw, hwn⟩ := hq
    have hg2 := hg1.trans h2
    rw [if_pos hop] at hw
    rw [hop]
    have hwl := hw.len
    have hal := alw_len hfa
    (conv => whnf)
    repeat' (refine IteP.mk (fun _ => W.mk ?_) (fun _ => W.mk ?_) <;> first | (exfalso; omega) | (conv => whnf))
    refine LoopP.of { α := Nat, fr := fun x => [(1, .c (.ptr 0 0)), (3, .v (.slice aw nw cw)), (5, .v (I (kA d x))), (6, .v (I x))], H := fun _ => [(0, .cells .anon (DVC d x0 x1 x2 x3 x4 x5 y0 z0 y1 z1 y2 z2 y3 z3 y4 z4 y5 z5) 27)], ok := fun i _ => i ≤ 3, m := fun x => 3 - x }
      0 (HeadP.of [] ⟨rfl, rfl, rfl, rfl, trivial⟩ ⟨rfl, trivial⟩) (Nat.zero_le _) (fun _ => ⟨rfl, rfl⟩) (fun (i : Nat) G3 h3 hx => W.mk ?_)
    have hg3 := hg2.trans h3
    dsimp only at hx
    have hkl := kA_le d i
    dsimp only
    (conv => whnf)
    refine IteP.mk (fun hlt => W.mk ?_) (fun hge => W.mk ?_) <;> (conv => whnf)
    · have hlt : i < 3 := by omega
      refine RelP.g (ok1 dvRd fun d => fewF d = true) (x := d) ⟨_, rfl, dvRd.grow hg3 hdv, hfw⟩ (Grow.refl _) (fun v G4 h4 hq => W.mk ?_)
      have hg4 := hg3.trans h4
      have hd4 := hq
      obtain ⟨_, _, _, _, _, _, rfl, hq⟩ := hq
      obtain ⟨xx0, yy0, zz0, rfl, _, _⟩ := id hq.a0
      obtain ⟨xx1, yy1, zz1, rfl, _, _⟩ := id hq.a1
      obtain ⟨xx2, yy2, zz2, rfl, _, _⟩ := id hq.n0
      obtain ⟨xx3, yy3, zz3, rfl, _, _⟩ := id hq.n1
      obtain ⟨xx4, yy4, zz4, rfl, _, _⟩ := id hq.ps
      obtain ⟨xx5, yy5, zz5, rfl, _, _⟩ := id hq.qs
      (conv => whnf)
      repeat' (refine OblP.mk ?_ (W.mk ?_); (first | trivial | omega | (simp only [inR]; omega) | exact Nat.le_of_ble_eq_true (by rfl) | exact SlR.some (by assumption) (by omega)); (conv => whnf))
      refine RelP.g (ok2 dvRd u8Rd fun d _ => rul d) (x := (d, (i : Int))) ⟨_, _, rfl, hd4, rfl, hr⟩ (Grow.refl _) (fun v G5 h5 hq => W.mk ?_)
      have hg5 := hg4.trans h5
      obtain ⟨v, rfl, av, nv, cv, rfl, hv, hvn⟩ := hq
      dsimp only at hv
      have hvl := hv.len
      dsimp only
      cases hio : (outsF d).contains (i : Int) with
      | false =>
        have hwe : witE d i = 7 := by rw [wt_none (by omega) (fault_right hfa) hop, hio]; rfl
        rw [hwe] at hv hvl
        rw [hwe]
        have hvl : 0 = nv := hvl
        subst hvl
        obtain ⟨k1, k2⟩ := kA_out hlt hio
        (conv => whnf)
        refine IteP.mk (fun hkk => W.mk ?_) (fun hkk => W.mk ?_) <;> (conv => whnf)
        · repeat' (first | (refine IteP.mk (fun _ => W.mk ?_) (fun _ => W.mk ?_) <;> first | (exfalso; omega) | (conv => whnf)) | (refine OblP.mk ?_ (W.mk ?_); (first | trivial | omega | (simp only [inR]; omega) | exact Nat.le_of_ble_eq_true (by rfl) | exact SlR.some (by assumption) (by omega)); (conv => whnf)))
          refine RoundP.of (i + 1) (HeadP.of [] ⟨rfl, rfl, ?_, rfl, trivial⟩ ⟨rfl, trivial⟩) (by show i + 1 ≤ 3; omega) (by simp only; omega)
          rw [k1]; rfl
        · have hkl : kA d i < (allowedF d).length := by omega
          have k2 := k2 hkl
          have hc := (SlR.grow (G := G2) (G' := G5) (fun _ _ h => h) hw ((h3.trans h4).trans h5)).el hkl
          repeat' (first | (refine OblP.mk ?_ (W.mk ?_); (first | trivial | omega | (simp only [inR]; omega) | exact Nat.le_of_ble_eq_true (by rfl) | exact SlR.some (by assumption) (by omega)); (conv => whnf)) | (first | (refine RdP.at (by assumption) (by rfl) (W.mk ?_); (conv => whnf)) | (refine RdP.sub (by assumption) (by rfl) (W.mk ?_); (conv => whnf)) | (refine RdP.sub2 (by assumption) (by rfl) (W.mk ?_); (conv => whnf)) | (refine RdP.sub3 (by assumption) (by rfl) (W.mk ?_); (conv => whnf))))
          refine IteP.mk (fun hkk => absurd hkk k2) (fun hkk => W.mk ?_)
          (conv => whnf)
          repeat' (first | (refine IteP.mk (fun _ => W.mk ?_) (fun _ => W.mk ?_) <;> first | (exfalso; omega) | (conv => whnf)) | (refine OblP.mk ?_ (W.mk ?_); (first | trivial | omega | (simp only [inR]; omega) | exact Nat.le_of_ble_eq_true (by rfl) | exact SlR.some (by assumption) (by omega)); (conv => whnf)))
          refine RoundP.of (i + 1) (HeadP.of [] ⟨rfl, rfl, ?_, rfl, trivial⟩ ⟨rfl, trivial⟩) (by show i + 1 ≤ 3; omega) (by simp only; omega)
          rw [k1]; rfl
      | true =>
        have hwe : witE d i = 0 := by rw [wt_none (by omega) (fault_right hfa) hop, hio]; rfl
        rw [hwe] at hv hvl
        rw [hwe]
        have hv : SlR u8E.k u8E.R G5 av nv cv (witL d i) := hv
        have hvl : (witL d i).length = nv := hvl
        obtain ⟨k0, k1, k2⟩ := kA_in hlt hio
        obtain ⟨f1, f2⟩ := wit_fit (fault_right hfa) hio
        (conv => whnf)
        refine IteP.mk (fun hkk => absurd hkk (by omega)) (fun hkk => W.mk ?_)
        have hc := (SlR.grow (G := G2) (G' := G5) (fun _ _ h => h) hw ((h3.trans h4).trans h5)).el k0
        (conv => whnf)
        repeat' (first | (refine OblP.mk ?_ (W.mk ?_); (first | trivial | omega | (simp only [inR]; omega) | exact Nat.le_of_ble_eq_true (by rfl) | exact SlR.some (by assumption) (by omega)); (conv => whnf)) | (first | (refine RdP.at (by assumption) (by rfl) (W.mk ?_); (conv => whnf)) | (refine RdP.sub (by assumption) (by rfl) (W.mk ?_); (conv => whnf)) | (refine RdP.sub2 (by assumption) (by rfl) (W.mk ?_); (conv => whnf)) | (refine RdP.sub3 (by assumption) (by rfl) (W.mk ?_); (conv => whnf))))
        refine IteP.mk (fun hkk => W.mk ?_) (fun hkk => absurd k1 hkk)
        (conv => whnf)
        repeat' (first | (refine IteP.mk (fun _ => W.mk ?_) (fun _ => W.mk ?_) <;> first | (exfalso; omega) | (conv => whnf)) | (refine OblP.mk ?_ (W.mk ?_); (first | trivial | omega | (simp only [inR]; omega) | exact Nat.le_of_ble_eq_true (by rfl) | exact SlR.some (by assumption) (by omega)); (conv => whnf)))
        have hdv5 := dvRd.grow hg5 hdv
        have hvv : SlV u8E G5 (.slice av nv cv) (witL d i) := ⟨_, _, _, rfl, hv, hvn⟩
        refine ScaP.g (ok2 dvRd (slRd u8E) fun _ _ => True) (x := (d, witL d i)) ⟨_, _, rfl, hdv5, hvv, trivial⟩ (fun v hv => W.mk ?_)
        have hv := hv.trans (congrArg Value.bool f1.vot)
        subst hv
        (conv => whnf)
        refine ForkP.mk (fun _ => W.mk ?_) (fun h => by cases h)
        (conv => whnf)
        have hm40 := right_m (fault_right hfa)
        refine ScaP.g (ok2 dvRd (slRd u8E) fun d t => d.m ≤ t.length ∧ d.m ≤ 40) (x := (d, witL d i)) ⟨_, _, rfl, hdv5, hvv, by have := f1.1; show d.m ≤ ((witL d i).length : Int); omega, by show d.m ≤ 40; omega⟩ (fun v hv => W.mk ?_)
        have hv := hv.trans (congrArg Value.bool f1.fitM)
        subst hv
        (conv => whnf)
        refine ForkP.mk (fun _ => W.mk ?_) (fun h => by cases h)
        (conv => whnf)
        refine RelP.g (ok1 dvRd fun d => fewF d = true) (x := d) ⟨_, rfl, dvRd.grow hg5 hdv, hfw⟩ (Grow.refl _) (fun v G6 h6 hq => W.mk ?_)
        have hg6 := hg5.trans h6
        have hd6 := hq
        obtain ⟨_, _, _, _, _, _, rfl, hq⟩ := hq
        obtain ⟨xx0, yy0, zz0, rfl, _, _⟩ := id hq.a0
        obtain ⟨xx1, yy1, zz1, rfl, _, _⟩ := id hq.a1
        obtain ⟨xx2, yy2, zz2, rfl, _, _⟩ := id hq.n0
        obtain ⟨xx3, yy3, zz3, rfl, _, _⟩ := id hq.n1
        obtain ⟨xx4, yy4, zz4, rfl, _, _⟩ := id hq.ps
        obtain ⟨xx5, yy5, zz5, rfl, _, _⟩ := id hq.qs
        (conv => whnf)
        refine ScaP.g (ok2 dvRd (slRd u8E) fun d _ => rul d) (x := (d, witL d i)) ⟨_, _, rfl, hd6, hvv.grow h6, hr⟩ (fun v hv => W.mk ?_)
        have hv := hv.trans (cntV_ok (f1.cnt hfa))
        dsimp only at hv
        rw [f2] at hv
        subst hv
        (conv => whnf)
        repeat' (first | (refine IteP.mk (fun _ => W.mk ?_) (fun _ => W.mk ?_) <;> first | (exfalso; omega) | (conv => whnf)) | (refine OblP.mk ?_ (W.mk ?_); (first | trivial | omega | (simp only [inR]; omega) | exact Nat.le_of_ble_eq_true (by rfl) | exact SlR.some (by assumption) (by omega)); (conv => whnf)))
        refine RoundP.of (i + 1) (HeadP.of [] ⟨rfl, rfl, ?_, rfl, trivial⟩ ⟨rfl, trivial⟩) (by show i + 1 ≤ 3; omega) (by simp only; omega)
        rw [k2]; rfl
    · have : i = 3 := by omega
      subst this
      have := kA_all d
      refine IteP.mk (fun _ => W.mk ?_) (fun h => absurd (by omega) h)
      (conv => whnf)
      refine ScaP.g okU (x := ()) rfl (fun v hv => W.mk ?_)
      subst hv
      (conv => whnf)
      refine ForkP.mk (fun _ => W.mk ?_) (fun h => by cases h)
      (conv => whnf)
      exact FinP.mk rfl
end Go.Proofs.YtgpfejgohclheaaGreat

namespace Go.Proofs.YtgpfejgohclheaaGreat
open Go.Pal Go.ChangeShapes
end Go.Proofs.YtgpfejgohclheaaGreat
