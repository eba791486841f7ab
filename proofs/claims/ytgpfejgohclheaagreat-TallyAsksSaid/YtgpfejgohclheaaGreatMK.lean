/- Layer 7: what is drawn: a division with no bounds on its lists; few. Layer 7, plain: the truths that fit are those that are gone through. Layer 7: the drawn values, opened. Layer 7, the seat .Z: chosen: a truth that fits, by a word. Layer 7, the seat .Z: ready. Layer 7, the seat .Z: the law TallyMore. Layer 7, the seat .Z: the law TallyTruth. Layer 7, the seat .Z: Truth, Fits of the reference. Layer 7, the seat .Z: the law TallyWitness. Layer 7, the seat .Z: the drawn words, opened. Layer 7, the seat .Z: the law TallyCounts. Layer 7, plain: who is in a pair does not count; at most as many count as there are members in no pair. Layer 7, the seat .Z: chosen, as an own row; the law TallyPairs. Layer 7, plain: the answers of the members of a question, as they are told to the tellers. Layer 7: told: a list of a teller in which a member is, or is not. Layer 7: ref.Truths: all truths that fit, as a row of rows. Layer 7: small, of a division of any size. Layer 7, plain: the truths of the reference; whether members decide; the least question by all sets. Layer 7, the seat .Z: less, Doubtful, Decide of the reference. Layer 7, the seat .Z: Ask of the reference. Layer 7, the seat .Z: the law TallyAsks. -/
import Derived.Test.YtgpfejgohclheaaGreatMJ
import Derived.Test.YtgpfejgohclheaaGreatMC
import Derived.Test.YtgpfejgohclheaaGreatRows
import Derived.Test.YtgpfejgohclheaaGreatME
import Derived.Laws.Entries
namespace Go.Proofs.YtgpfejgohclheaaGreat
open Go.Pal
set_option maxRecDepth 100000
def SlU {α : Type} (e : El α) (G : Hp) (v : Value) (l : List α) : Prop := ∃ a n c, v = .slice a n c ∧ SlR e.k e.R G a n c l
theorem SlU.uniq {α : Type} {e : El α} {G : Hp} {v : Value} {x y : List α} (h : SlU e G v x) (h' : SlU e G v y) : x = y := by
  obtain ⟨a, n, c, rfl, h⟩ := h
  obtain ⟨a', n', c', e', h'⟩ := h'
  cases e'
  exact h.uniq (fun cs x y h1 h2 => e.inj (h1.symm.trans h2)) h'
theorem SlU.grow {α : Type} {e : El α} {G G' : Hp} {v : Value} {x : List α} (hg : Grow G G') (h : SlU e G v x) : SlU e G' v x := by
  obtain ⟨a, n, c, rfl, h⟩ := h
  exact ⟨a, n, c, rfl, SlR.grow (G := G) (G' := G') (fun _ _ h => h) h hg⟩
theorem SlU.v {α : Type} {e : El α} {G : Hp} {v : Value} {x : List α} (h : SlU e G v x) (hb : x.length ≤ 140737488355328) : SlV e G v x := by
  obtain ⟨a, n, c, rfl, h⟩ := h
  exact ⟨a, n, c, rfl, h, by rw [← h.len]; exact hb⟩
structure DuC (G : Hp) (w0 w1 w2 w3 w4 w5 : Value) (d : Dv) : Prop where
  a0 : SlU intE G w0 d.a0
  a1 : SlU intE G w1 d.a1
  n0 : SlU intE G w2 d.n0
  n1 : SlU intE G w3 d.n1
  ps : SlU prE G w4 d.ps
  qs : SlU prE G w5 d.qs
theorem DuC.grow {G G' : Hp} {w0 w1 w2 w3 w4 w5 : Value} {d : Dv} (hg : Grow G G') (h : DuC G w0 w1 w2 w3 w4 w5 d) : DuC G' w0 w1 w2 w3 w4 w5 d :=
  ⟨h.a0.grow hg, h.a1.grow hg, h.n0.grow hg, h.n1.grow hg, h.ps.grow hg, h.qs.grow hg⟩
def DuV (G : Hp) (v : Value) (d : Dv) : Prop := ∃ w0 w1 w2 w3 w4 w5, v = .agg #[I d.m, w0, w1, w2, w3, w4, w5, U d.rule, I d.need, I d.quorum, U d.tie] ∧ DuC G w0 w1 w2 w3 w4 w5 d
def duRd : Rd Dv := ⟨DuV, fun {_ _ x y} ⟨w0, w1, w2, w3, w4, w5, h, h1⟩ ⟨v0, v1, v2, v3, v4, v5, h', h1'⟩ => by
    subst h
    simp only [Value.agg.injEq, Array.mk.injEq, List.cons.injEq, Value.int.injEq, true_and, and_true] at h'
    obtain ⟨e1, e2, e3, e4, e5, e6, e7, e8, e9, e10, e11⟩ := h'
    subst e2; subst e3; subst e4; subst e5; subst e6; subst e7
    have k0 := h1.a0.uniq h1'.a0
    have k1 := h1.a1.uniq h1'.a1
    have k2 := h1.n0.uniq h1'.n0
    have k3 := h1.n1.uniq h1'.n1
    have k4 := h1.ps.uniq h1'.ps
    have k5 := h1.qs.uniq h1'.qs
    cases x; cases y; simp_all, fun hg ⟨w0, w1, w2, w3, w4, w5, h, h1⟩ => ⟨w0, w1, w2, w3, w4, w5, h, h1.grow hg⟩⟩
theorem DuC.v {G : Hp} {w0 w1 w2 w3 w4 w5 : Value} {d : Dv} (h : DuC G w0 w1 w2 w3 w4 w5 d) (hf : fewF d = true) : DvC G w0 w1 w2 w3 w4 w5 d := by
  simp only [fewF, Bool.and_eq_true, decide_eq_true_eq] at hf
  obtain ⟨⟨⟨⟨⟨h1, h2⟩, h3⟩, h4⟩, h5⟩, h6⟩ := hf
  exact ⟨h.a0.v (by omega), h.a1.v (by omega), h.n0.v (by omega), h.n1.v (by omega), h.ps.v (by omega), h.qs.v (by omega)⟩
theorem DuV.v {G : Hp} {v : Value} {d : Dv} (h : DuV G v d) (hf : fewF d = true) : DvV G v d := by
  obtain ⟨w0, w1, w2, w3, w4, w5, e, h⟩ := h
  exact ⟨w0, w1, w2, w3, w4, w5, e, h.v hf⟩
theorem few20u : Sound Tryz.prog 22 id (gsca (args1 duRd fun _ => True) fun d v => v = .bool (fewF d)) := by
  refine comp22.gsca (Tab.nil _) (fun args G s h => ?_) (fun args G d h => ?_)
  · obtain ⟨v, rfl, _⟩ := h; simp
  · obtain ⟨u, rfl, ⟨w0, w1, w2, w3, w4, w5, rfl, hd⟩, _⟩ := h
    obtain ⟨x0, y0, z0, rfl, la0⟩ := id hd.a0
    obtain ⟨x1, y1, z1, rfl, la1⟩ := id hd.a1
    obtain ⟨x2, y2, z2, rfl, ln0⟩ := id hd.n0
    obtain ⟨x3, y3, z3, rfl, ln1⟩ := id hd.n1
    obtain ⟨x4, y4, z4, rfl, lps⟩ := id hd.ps
    obtain ⟨x5, y5, z5, rfl, lqs⟩ := id hd.qs
    have e0 := la0.len
    have e1 := la1.len
    have e2 := ln0.len
    have e3 := ln1.len
    have e4 := lps.len
    have e5 := lqs.len
    (conv => whnf)
    refine LoopP.of { α := Nat, fr := fun x => [(1, .c (.ptr 0 0)), (3, .v (I x))], H := fun _ => [(0, .cells .anon (DVC d x0 x1 x2 x3 x4 x5 y0 z0 y1 z1 y2 z2 y3 z3 y4 z4 y5 z5) 27)], ok := fun i _ => i ≤ 2 ∧ (0 < i → y0 ≤ 45 ∧ y2 ≤ 45) ∧ (1 < i → y1 ≤ 45 ∧ y3 ≤ 45), m := fun x => 2 - x }
      0 (HeadP.of [] ⟨rfl, rfl, trivial⟩ ⟨rfl, trivial⟩) ⟨Nat.zero_le _, fun h => by omega, fun h => by omega⟩ (fun _ => ⟨rfl, rfl⟩) (fun (i : Nat) G' hG hx => W.mk ?_)
    obtain ⟨hi, hx1, hx2⟩ := hx
    dsimp only
    (conv => whnf)
    refine IteP.mk (fun hlt => W.mk ?_) (fun hge => W.mk ?_) <;> (conv => whnf)
    · rcases (by omega : i = 0 ∨ i = 1) with rfl | rfl
      · repeat' (refine OblP.mk ?_ (W.mk ?_); (first | trivial | omega | (simp only [inR]; omega) | exact Nat.le_of_ble_eq_true (by rfl) | exact SlR.some (by assumption) (by omega)); (conv => whnf))
        refine EqsP.mk ⟨[.val (.slice x0 y0 z0)], rfl, rfl, W.mk ?_⟩
        (conv => whnf)
        refine IteP.mk (fun h1 => W.mk ?_) (fun h1 => W.mk ?_) <;> (conv => whnf)
        · refine FinP.mk ?_
          refine congrArg Value.bool ?_
          have : decide (d.a0.length ≤ 45) = false := by simp only [decide_eq_false_iff_not]; omega
          simp [fewF, this]
        · repeat' (refine OblP.mk ?_ (W.mk ?_); (first | trivial | omega | (simp only [inR]; omega) | exact Nat.le_of_ble_eq_true (by rfl) | exact SlR.some (by assumption) (by omega)); (conv => whnf))
          refine EqsP.mk ⟨[.val (.slice x2 y2 z2)], rfl, rfl, W.mk ?_⟩
          (conv => whnf)
          refine IteP.mk (fun h2 => W.mk ?_) (fun h2 => W.mk ?_) <;> (conv => whnf)
          · refine FinP.mk ?_
            refine congrArg Value.bool ?_
            have : decide (d.n0.length ≤ 45) = false := by simp only [decide_eq_false_iff_not]; omega
            simp [fewF, this]
          · repeat' (refine OblP.mk ?_ (W.mk ?_); (first | trivial | omega | (simp only [inR]; omega) | exact Nat.le_of_ble_eq_true (by rfl) | exact SlR.some (by assumption) (by omega)); (conv => whnf))
            refine RoundP.of 1 (HeadP.of [] ⟨rfl, rfl, trivial⟩ ⟨rfl, trivial⟩) ⟨by show (1 : Nat) ≤ 2; omega, fun _ => by omega, fun h => by exact absurd h (by show ¬ (1 < 1); omega)⟩ (by simp only; omega)
      · repeat' (refine OblP.mk ?_ (W.mk ?_); (first | trivial | omega | (simp only [inR]; omega) | exact Nat.le_of_ble_eq_true (by rfl) | exact SlR.some (by assumption) (by omega)); (conv => whnf))
        refine EqsP.mk ⟨[.val (.slice x1 y1 z1)], rfl, rfl, W.mk ?_⟩
        (conv => whnf)
        have hx1 := hx1 (by omega)
        refine IteP.mk (fun h1 => W.mk ?_) (fun h1 => W.mk ?_) <;> (conv => whnf)
        · refine FinP.mk ?_
          refine congrArg Value.bool ?_
          have : decide (d.a1.length ≤ 45) = false := by simp only [decide_eq_false_iff_not]; omega
          simp [fewF, this]
        · repeat' (refine OblP.mk ?_ (W.mk ?_); (first | trivial | omega | (simp only [inR]; omega) | exact Nat.le_of_ble_eq_true (by rfl) | exact SlR.some (by assumption) (by omega)); (conv => whnf))
          refine EqsP.mk ⟨[.val (.slice x3 y3 z3)], rfl, rfl, W.mk ?_⟩
          (conv => whnf)
          refine IteP.mk (fun h2 => W.mk ?_) (fun h2 => W.mk ?_) <;> (conv => whnf)
          · refine FinP.mk ?_
            refine congrArg Value.bool ?_
            have : decide (d.n1.length ≤ 45) = false := by simp only [decide_eq_false_iff_not]; omega
            simp [fewF, this]
          · repeat' (refine OblP.mk ?_ (W.mk ?_); (first | trivial | omega | (simp only [inR]; omega) | exact Nat.le_of_ble_eq_true (by rfl) | exact SlR.some (by assumption) (by omega)); (conv => whnf))
            refine RoundP.of 2 (HeadP.of [] ⟨rfl, rfl, trivial⟩ ⟨rfl, trivial⟩) ⟨by show (2 : Nat) ≤ 2; omega, fun _ => hx1, fun _ => by omega⟩ (by simp only; omega)
    · have : i = 2 := by omega
      subst this
      have hx1 := hx1 (by omega)
      have hx2 := hx2 (by omega)
      have d0 : decide (d.a0.length ≤ 45) = true := by simp only [decide_eq_true_eq]; omega
      have d1 : decide (d.a1.length ≤ 45) = true := by simp only [decide_eq_true_eq]; omega
      have d2 : decide (d.n0.length ≤ 45) = true := by simp only [decide_eq_true_eq]; omega
      have d3 : decide (d.n1.length ≤ 45) = true := by simp only [decide_eq_true_eq]; omega
      refine IteP.mk (fun h1 => W.mk ?_) (fun h1 => W.mk ?_) <;> (conv => whnf)
      · have d4 : decide (d.ps.length ≤ 12) = true := by simp only [decide_eq_true_eq]; omega
        refine IteP.mk (fun h2 => W.mk ?_) (fun h2 => W.mk ?_) <;> (conv => whnf) <;> refine FinP.mk ?_ <;> refine congrArg Value.bool ?_
        · have d5 : decide (d.qs.length ≤ 12) = true := by simp only [decide_eq_true_eq]; omega
          simp [fewF, d0, d1, d2, d3, d4, d5]
        · have d5 : decide (d.qs.length ≤ 12) = false := by simp only [decide_eq_false_iff_not]; omega
          simp [fewF, d5]
      · refine FinP.mk ?_
        refine congrArg Value.bool ?_
        have d4 : decide (d.ps.length ≤ 12) = false := by simp only [decide_eq_false_iff_not]; omega
        simp [fewF, d4]
end Go.Proofs.YtgpfejgohclheaaGreat

namespace Go.Proofs.YtgpfejgohclheaaGreat
open Go.Pal
theorem trK_mem {may : Nat → List Int} : ∀ r m f g, (∀ j, m ≤ j → j < m + r → g j ∈ may j) → (∀ j, j < m ∨ m + r ≤ j → g j = f j) → g ∈ trK may r m f
  | 0, m, f, g, _, h2 => by
    simp only [trK, List.mem_singleton]
    funext j
    exact h2 j (by omega)
  | r + 1, m, f, g, h1, h2 => by
    simp only [trK, List.mem_flatMap]
    refine ⟨g m, h1 m (by omega) (by omega), trK_mem r (m + 1) _ g (fun j a b => h1 j (by omega) (by omega)) (fun j hj => ?_)⟩
    by_cases hjm : j = m
    · subst hjm; rw [if_pos rfl]
    · rw [if_neg hjm]; exact h2 j (by omega)
theorem tru_mem {d : Dv} (hr : rightD d = true) {g : Nat → Int} : g ∈ truL (lookF d) ↔ (∀ k, k < d.m.toNat → g k ∈ votesF d k) ∧ ∀ k, d.m.toNat ≤ k → g k = 0 := by
  have hm := right_m hr
  constructor
  · intro h
    obtain ⟨h1, h2⟩ := trK_spec _ _ _ _ h
    refine ⟨fun k hk => ?_, fun k hk => h2 k (.inr (by show 0 + d.m.toNat ≤ k; omega))⟩
    have := h1 k (Nat.zero_le _) (by show k < 0 + d.m.toNat; omega)
    rwa [mayL, may_look hm.2 hk] at this
  · rintro ⟨h1, h2⟩
    refine trK_mem _ _ _ _ (fun j _ hj => ?_) (fun j hj => ?_)
    · have hj : j < 0 + d.m.toNat := hj
      rw [mayL, may_look hm.2 (by omega)]
      exact h1 j (by omega)
    · have hj : j < 0 ∨ 0 + d.m.toNat ≤ j := hj
      exact h2 j (by omega)

/-- A truth, as it is counted. -/
def Fit (d : Dv) (t : List Int) : Prop := (t.length : Int) = d.m ∧ ∀ k, k < t.length → t.getD k 0 ∈ votesF d k
theorem Fit.of {d : Dv} {t : List Int} (hr : rightD d = true) : ofF d (trT fun k => t.getD k 0) = ofF d t :=
  ofF_ext hr fun k hk => by have := right_m hr; exact trT_get (by omega)
theorem Fit.vote {d : Dv} {t : List Int} (h : Fit d t) : ∀ v ∈ t, v = 0 ∨ v = 1 ∨ v = 2 := fun v hv => by
  obtain ⟨k, hk, rfl⟩ := List.getElem_of_mem hv
  have := h.2 k hk
  rw [List.getD_eq_getElem?_getD, List.getElem?_eq_getElem hk] at this
  exact votes_012 this
theorem fault_clash {d : Dv} (h : faultF d = 0) : rightD d = true ∧ clashF d < 0 := by
  refine ⟨fault_right h, ?_⟩
  rw [faultF, fault_right h] at h
  simpa using h
theorem tru_fit {d : Dv} (hr : rightD d = true) {f : Nat → Int} (h : f ∈ truL (lookF d)) : Fit d ((List.range d.m.toNat).map f) := by
  have hm := right_m hr
  obtain ⟨h1, _⟩ := (tru_mem hr).1 h
  refine ⟨by simp; omega, fun k hk => ?_⟩
  have hk : k < d.m.toNat := by simpa using hk
  rw [List.getD_eq_getElem?_getD]
  simp [hk]
  exact h1 k hk
end Go.Proofs.YtgpfejgohclheaaGreat

namespace Go.Proofs.YtgpfejgohclheaaGreat
open Go.Pal Go.ChangeShapes

theorem SlR.map {α β : Type} {k : Nat} {R : Hp → List Value → α → Prop} {R' : Hp → List Value → β → Prop} {G : Hp} {a : Option Addr} {n c : Nat} {l : List α} (f : α → β) (hf : ∀ cs x, R G cs x → R' G cs (f x)) (h : SlR k R G a n c l) : SlR k R' G a n c (l.map f) :=
  ⟨by rw [List.length_map, h.len], h.cap, h.some, fun i hi => by
    obtain ⟨cs, h1, h2, h3⟩ := h.at_ i (by simpa using hi)
    exact ⟨cs, h1, h2, by rw [List.getElem_map]; exact hf _ _ h3⟩⟩
theorem udl3 : Tryz.prog.underlying 3 = some (.int .i64) := by kernel_rfl
theorem udl5 : Tryz.prog.underlying 5 = some (.int .u8) := by kernel_rfl
theorem o3 : Opens Tryz.prog 3 (cdInt .i64) := .int udl3
theorem o5 : Opens Tryz.prog 5 (cdInt .u8) := .int udl5
theorem o4 : Opens Tryz.prog 4 cdBool := .bool (by kernel_rfl)
theorem o22 : Opens Tryz.prog 22 (cdSl (cdInt .i64)) := .slice (e := 3) (by kernel_rfl) o3 (by decide)
abbrev cdTwo := cdPair (cdSl (cdInt .i64)) (cdPair (cdSl (cdInt .i64)) cdUnit)
theorem o23 : Opens Tryz.prog 23 cdTwo := .two (e := 22) (by kernel_rfl) o22 (by kernel_rfl)
abbrev cdPr := cdPair (cdInt .i64) (cdPair (cdInt .i64) cdUnit)
theorem o82 : Opens Tryz.prog 68 cdPr := .struct (fs := [(3, 0), (3, 1)]) (by kernel_rfl) (by kernel_rfl) (OpensF.cons o3 (OpensF.cons o3 OpensF.nil))
theorem o83 : Opens Tryz.prog 88 cdPr := .struct (fs := [(3, 0), (3, 1)]) (by kernel_rfl) (by kernel_rfl) (OpensF.cons o3 (OpensF.cons o3 OpensF.nil))
theorem o24 : Opens Tryz.prog 24 (cdSl cdPr) := .slice (e := 68) (by kernel_rfl) o82 (by decide)
theorem o25 : Opens Tryz.prog 25 (cdSl cdPr) := .slice (e := 88) (by kernel_rfl) o83 (by decide)
abbrev cdDv := cdPair (cdInt .i64) (cdPair cdTwo (cdPair cdTwo (cdPair (cdSl cdPr) (cdPair (cdSl cdPr) (cdPair (cdInt .u8) (cdPair (cdInt .i64) (cdPair (cdInt .i64) (cdPair (cdInt .u8) cdUnit))))))))
theorem o27 : Opens Tryz.prog 27 cdDv := .struct (fs := [(3, 0), (23, 1), (23, 3), (24, 5), (25, 6), (5, 7), (3, 8), (3, 9), (5, 10)]) (by kernel_rfl) (by kernel_rfl) (OpensF.cons o3 (OpensF.cons o23 (OpensF.cons o23 (OpensF.cons o24 (OpensF.cons o25 (OpensF.cons o5 (OpensF.cons o3 (OpensF.cons o3 (OpensF.cons o5 OpensF.nil)))))))))
theorem pr_cd {G : Hp} {cs : List Value} {x} (h : cdPr.R G cs x) : prE.R G cs (x.1, x.2.1) := by
  obtain ⟨_, _, rfl, ⟨rfl, _⟩, _, _, rfl, ⟨rfl, _⟩, rfl⟩ := h; rfl
theorem dv_val {G : Hp} {v : Value} (h : ∃ x, VR cdDv true G v x) : ∃ d, DuV G v d ∧ rul d := by
  obtain ⟨x, cs, rfl, _, _, e, ⟨rfl, _⟩, _, _, rfl, ⟨_, _, rfl, ⟨a0, n0, c0, rfl, h0, _⟩, _, _, rfl, ⟨a1, n1, c1, rfl, h1, _⟩, rfl⟩, _, _, rfl, ⟨_, _, rfl, ⟨a2, n2, c2, rfl, h2, _⟩, _, _, rfl, ⟨a3, n3, c3, rfl, h3, _⟩, rfl⟩,
    _, _, rfl, ⟨a4, n4, c4, rfl, h4, _⟩, _, _, rfl, ⟨a5, n5, c5, rfl, h5, _⟩, _, _, rfl, ⟨rfl, hr⟩, _, _, rfl, ⟨rfl, _⟩, _, _, rfl, ⟨rfl, _⟩, _, _, rfl, ⟨rfl, _⟩, rfl⟩ := h
  have hi : ∀ (cs : List Value) x, (cdInt .i64).R G cs x → intE.R G cs (id x) := fun _ _ h => h.1
  refine ⟨⟨x.1, x.2.1.1, x.2.1.2.1, x.2.2.1.1, x.2.2.1.2.1, x.2.2.2.1.map fun p => (p.1, p.2.1), x.2.2.2.2.1.map fun p => (p.1, p.2.1), x.2.2.2.2.2.1, x.2.2.2.2.2.2.1, x.2.2.2.2.2.2.2.1, x.2.2.2.2.2.2.2.2.1⟩,
    ⟨.slice a0 n0 c0, .slice a1 n1 c1, .slice a2 n2 c2, .slice a3 n3 c3, .slice a4 n4 c4, .slice a5 n5 c5, ?_, ⟨a0, n0, c0, rfl, ?_⟩, ⟨a1, n1, c1, rfl, ?_⟩, ⟨a2, n2, c2, rfl, ?_⟩, ⟨a3, n3, c3, rfl, ?_⟩, ⟨a4, n4, c4, rfl, SlR.map _ (fun _ _ h => pr_cd h) h4⟩, ⟨a5, n5, c5, rfl, SlR.map _ (fun _ _ h => pr_cd h) h5⟩⟩, ?_⟩
  · simp at e
    exact congrArg Value.agg (Array.toList_inj.1 e)
  · have := SlR.map id hi h0; rwa [List.map_id] at this
  · have := SlR.map id hi h1; rwa [List.map_id] at this
  · have := SlR.map id hi h2; rwa [List.map_id] at this
  · have := SlR.map id hi h3; rwa [List.map_id] at this
  · simp only [inR] at hr
    exact ⟨hr.1, by have := hr.2; show _ ≤ _; omega⟩
theorem ownK : ownKnob Tryz.checked.prog.godebug = none := by kernel_rfl
theorem laidK : laidOutB Tryz.checked.prog = true := by kernel_rfl
theorem boolK : Tryz.checked.prog.underlying 4 = some .bool := by kernel_rfl
abbrev dv0 : Value := .agg #[.int .i64 0, .slice none 0 0, .slice none 0 0, .slice none 0 0, .slice none 0 0, .slice none 0 0, .slice none 0 0, .int .u8 0, .int .i64 0, .int .i64 0, .int .u8 0]
end Go.Proofs.YtgpfejgohclheaaGreat

namespace Go.Proofs.YtgpfejgohclheaaGreat
open Go.Pal
set_option maxRecDepth 100000
/-- The votes that are chosen so far fit. -/
def ChK (d : Dv) (t : List Int) (m : Nat) : Prop := t.length = m ∧ ∀ k, k < m → t.getD k 0 ∈ votesF d k
theorem ChK.snoc {d : Dv} {t : List Int} {m : Nat} (h : ChK d t m) {x : Int} (hx : x ∈ votesF d m) : ChK d (t ++ [x]) (m + 1) := by
  obtain ⟨h1, h2⟩ := h
  refine ⟨by simp [h1], fun k hk => ?_⟩
  rw [List.getD_eq_getElem?_getD]
  by_cases hkm : k < m
  · rw [List.getElem?_append_left (by omega), ← List.getD_eq_getElem?_getD]
    exact h2 k hkm
  · have : k = t.length := by omega
    subst this
    rw [List.getElem?_concat_length]
    rw [h1]; exact hx
end Go.Proofs.YtgpfejgohclheaaGreat

namespace Go.Proofs.YtgpfejgohclheaaGreat
open Go.Pal
set_option maxRecDepth 100000
end Go.Proofs.YtgpfejgohclheaaGreat

namespace Go.Proofs.YtgpfejgohclheaaGreat
open Go.Pal
set_option maxRecDepth 100000
end Go.Proofs.YtgpfejgohclheaaGreat

namespace Go.Proofs.YtgpfejgohclheaaGreat
open Go.Pal
set_option maxRecDepth 100000
set_option maxHeartbeats 1000000
end Go.Proofs.YtgpfejgohclheaaGreat

namespace Go.Proofs.YtgpfejgohclheaaGreat
open Go.Pal
set_option maxRecDepth 100000
end Go.Proofs.YtgpfejgohclheaaGreat

namespace Go.Proofs.YtgpfejgohclheaaGreat
open Go.Pal
set_option maxRecDepth 100000
set_option maxHeartbeats 1000000
end Go.Proofs.YtgpfejgohclheaaGreat

namespace Go.Proofs.YtgpfejgohclheaaGreat
open Go.Pal Go.ChangeShapes
def suRd {α : Type} (e : El α) : Rd (List α) := ⟨SlU e, fun h h' => h.uniq h', fun hg h => h.grow hg⟩
theorem ints_val {G : Hp} {v : Value} (h : ∃ x, VR (cdSl (cdInt .i64)) false G v x) : ∃ t, (suRd intE).R G v t := by
  obtain ⟨x, a, n, c, e, hr, _⟩ := h
  simp only [List.cons.injEq, and_true] at e
  refine ⟨x, a, n, c, e, ?_⟩
  have := SlR.map (R' := intE.R) id (fun cs x h => h.1) hr
  rwa [List.map_id] at this
end Go.Proofs.YtgpfejgohclheaaGreat

namespace Go.Proofs.YtgpfejgohclheaaGreat
open Go.Pal
set_option maxRecDepth 100000
set_option maxHeartbeats 1000000
end Go.Proofs.YtgpfejgohclheaaGreat

namespace Go.Proofs.YtgpfejgohclheaaGreat
open Go.Pal
def C3.two (c : C3) : Int := c.c1 + c.c2
end Go.Proofs.YtgpfejgohclheaaGreat

namespace Go.Proofs.YtgpfejgohclheaaGreat
open Go.Pal
set_option maxRecDepth 100000
theorem Fit.set {d : Dv} {t t' : List Int} {i : Nat} (h : Fit d t) (h' : Fit d t') (hi : i < t.length) (hi' : i < t'.length) : Fit d (t.set i t'[i]) := by
  refine ⟨by rw [List.length_set]; exact h.1, fun k hk => ?_⟩
  rw [List.length_set] at hk
  rw [getD_set _ _ _ _ hi]
  split
  · rename_i e
    subst e
    have := h'.2 k hi'
    simpa [hi'] using this
  · exact h.2 k hk
set_option maxHeartbeats 1000000
end Go.Proofs.YtgpfejgohclheaaGreat

namespace Go.Proofs.YtgpfejgohclheaaGreat
open Go.Pal
def toldF (l : List Int) (m : Int) (b : Bool) : List Int := l.filter (fun x => decide (x < m)) ++ (if b then [m] else []) ++ l.filter (fun x => decide (m < x))
theorem told_mem {l : List Int} {m : Int} {b : Bool} {y : Int} : y ∈ toldF l m b ↔ if y = m then b = true else y ∈ l := by
  simp only [toldF, List.mem_append, List.mem_filter, decide_eq_true_eq]
  by_cases h : y = m
  · subst h; rw [if_pos rfl]; cases b <;> simp
  · rw [if_neg h]
    have hb : ¬ y ∈ (if b = true then [m] else []) := by cases b <;> simp [h]
    constructor
    · rintro ((⟨h1, _⟩ | h1) | ⟨h1, _⟩)
      · exact h1
      · exact absurd h1 hb
      · exact h1
    · intro h1
      rcases (by omega : y < m ∨ m < y) with h2 | h2
      · exact .inl (.inl ⟨h1, h2⟩)
      · exact .inr ⟨h1, h2⟩
theorem told_has {l : List Int} {m : Int} {b : Bool} {y : Int} : (toldF l m b).contains y = if y = m then b else l.contains y := by
  rw [Bool.eq_iff_iff, List.contains_iff_mem, told_mem]
  split
  · rfl
  · rw [List.contains_iff_mem]
theorem gd0 {l : List Int} {k : Nat} (h : k < l.length) : l.getD k 0 = l[k] := by simp [h]
theorem ris_pw {l : List Int} : risF l = true ↔ l.Pairwise (· < ·) := by
  rw [List.pairwise_iff_getElem]
  constructor
  · intro h
    have h : ∀ k, k + 1 < l.length → l.getD k 0 < l.getD (k + 1) 0 := by
      intro k hk
      simp only [risF, List.all_eq_true, List.mem_range, decide_eq_true_eq] at h
      exact h k (by omega)
    intro i j hi hj hij
    have key : ∀ n, ∀ hn : i + n + 1 < l.length, l[i] < l[i + n + 1] := by
      intro n
      induction n with
      | zero => intro hn; have := h i hn; rwa [gd0 (by omega), gd0 hn] at this
      | succ n ih =>
        intro hn
        have h1 := ih (by omega)
        have h2 := h (i + n + 1) (by omega)
        rw [gd0 (by omega), gd0 (by omega)] at h2
        exact Int.lt_trans h1 h2
    have := key (j - i - 1) (by omega)
    have e : i + (j - i - 1) + 1 = j := by omega
    simpa only [e] using this
  · intro h
    exact ris_true fun k hk => by rw [gd0 (by omega), gd0 hk]; exact h _ _ _ _ (by omega)
theorem told_pw {l : List Int} {m : Int} {b : Bool} (h : l.Pairwise (· < ·)) : (toldF l m b).Pairwise (· < ·) := by
  rw [toldF, List.pairwise_append, List.pairwise_append]
  refine ⟨⟨h.filter _, by cases b <;> simp, fun x hx y hy => ?_⟩, h.filter _, fun x hx y hy => ?_⟩
  · have h1 := (List.mem_filter.1 hx).2
    simp only [decide_eq_true_eq] at h1
    cases b
    · simp at hy
    · simp at hy; subst hy; exact h1
  · have h2 := (List.mem_filter.1 hy).2
    simp only [decide_eq_true_eq] at h2
    rcases List.mem_append.1 hx with hx | hx
    · have h1 := (List.mem_filter.1 hx).2
      simp only [decide_eq_true_eq] at h1
      omega
    · cases b
      · simp at hx
      · simp at hx; subst hx; exact h2
theorem inF_iff {x a b : Int} : inF x a b = true ↔ a ≤ x ∧ x ≤ b := by simp [inF]
theorem list_iff {m : Int} {l : List Int} : listF m l = true ↔ (∀ x ∈ l, 0 ≤ x ∧ x < m) ∧ l.Pairwise (· < ·) := by
  rw [listF, Bool.and_eq_true, ris_pw, List.all_eq_true]
  constructor
  · rintro ⟨h1, h2⟩; exact ⟨fun x hx => by have := inF_iff.1 (h1 x hx); omega, h2⟩
  · rintro ⟨h1, h2⟩; exact ⟨fun x hx => inF_iff.2 (by have := h1 x hx; omega), h2⟩
theorem told_list {m x : Int} {l : List Int} {b : Bool} (h : listF m l = true) (h0 : 0 ≤ x) (h1 : x < m) : listF m (toldF l x b) = true := by
  obtain ⟨h2, h3⟩ := list_iff.1 h
  refine list_iff.2 ⟨fun y hy => ?_, told_pw h3⟩
  have := told_mem.1 hy
  split at this
  · omega
  · exact h2 y this
/-- A member's vote, on both lists or on none. -/
def ansD (t : List Int) (d : Dv) (x : Int) : Dv := { d with a0 := toldF d.a0 x (decide (t.getD x.toNat 0 = 1)), a1 := toldF d.a1 x (decide (t.getD x.toNat 0 = 1)), n0 := toldF d.n0 x (decide (t.getD x.toNat 0 = 2)), n1 := toldF d.n1 x (decide (t.getD x.toNat 0 = 2)) }
theorem ans_right {t : List Int} {d : Dv} {x : Int} (h : rightD d = true) (h0 : 0 ≤ x) (hm : x < d.m) : rightD (ansD t d x) = true := by
  simp only [rightD, Bool.and_eq_true] at h ⊢
  obtain ⟨⟨⟨⟨⟨⟨h1, h2⟩, h3⟩, h4⟩, h5⟩, h6⟩, h7⟩ := h
  exact ⟨⟨⟨⟨⟨⟨h1, told_list h2 h0 hm⟩, told_list h3 h0 hm⟩, told_list h4 h0 hm⟩, told_list h5 h0 hm⟩, h6⟩, h7⟩
theorem ans_ona {t : List Int} {d : Dv} {x y : Int} : onF (ansD t d x).a y = if y = x then (if t.getD x.toNat 0 = 1 then 2 else 0) else onF d.a y := by
  show b2 ((toldF d.a0 x _).contains y) + b2 ((toldF d.a1 x _).contains y) = _
  rw [told_has, told_has]
  by_cases h : y = x
  · rw [if_pos h, if_pos h, if_pos h]
    by_cases h1 : t.getD x.toNat 0 = 1
    · rw [if_pos h1, decide_eq_true h1]; rfl
    · rw [if_neg h1, decide_eq_false h1]; rfl
  · rw [if_neg h, if_neg h, if_neg h]; rfl
theorem ans_onn {t : List Int} {d : Dv} {x y : Int} : onF (ansD t d x).n y = if y = x then (if t.getD x.toNat 0 = 2 then 2 else 0) else onF d.n y := by
  show b2 ((toldF d.n0 x _).contains y) + b2 ((toldF d.n1 x _).contains y) = _
  rw [told_has, told_has]
  by_cases h : y = x
  · rw [if_pos h, if_pos h, if_pos h]
    by_cases h1 : t.getD x.toNat 0 = 2
    · rw [if_pos h1, decide_eq_true h1]; rfl
    · rw [if_neg h1, decide_eq_false h1]; rfl
  · rw [if_neg h, if_neg h, if_neg h]; rfl
theorem ans_votes {t : List Int} {d : Dv} {x y : Int} (ht : t.getD x.toNat 0 = 0 ∨ t.getD x.toNat 0 = 1 ∨ t.getD x.toNat 0 = 2) : votesF (ansD t d x) y = if y = x then [t.getD x.toNat 0] else votesF d y := by
  simp only [votesF, mayF, ans_ona, ans_onn]
  by_cases h : y = x
  · simp only [if_pos h]
    rcases ht with h | h | h <;> rw [h] <;> decide
  · simp only [if_neg h]
theorem ans_cla {t : List Int} {d : Dv} {x : Int} {k : Nat} (h : cla d k = false) : cla (ansD t d x) k = false := by
  simp only [cla, ans_ona, ans_onn]
  by_cases h1 : (k : Int) = x
  · simp only [if_pos h1]
    by_cases h2 : t.getD x.toNat 0 = 1
    · rw [h2]; decide
    · rw [if_neg h2]; simp
  · simp only [if_neg h1]; exact h
theorem fault_iff {d : Dv} : faultF d = 0 ↔ rightD d = true ∧ ∀ k, k < d.m.toNat → cla d k = false := by
  constructor
  · intro h
    obtain ⟨hr, hc⟩ := fault_clash h
    refine ⟨hr, fun k hk => ?_⟩
    unfold clashF at hc
    split at hc
    · omega
    · rename_i hn
      rw [List.find?_eq_none] at hn
      have := hn k (List.mem_range.2 hk)
      simpa using this
  · rintro ⟨hr, hc⟩
    have : (List.range d.m.toNat).find? (cla d) = none := by
      rw [List.find?_eq_none]
      intro k hk
      rw [hc k (List.mem_range.1 hk)]; simp
    rw [faultF, hr, clashF, this]; rfl
theorem cntK_votes (d : Dv) (m : Int) : cntK d m 3 = (votesF d m).length := by
  simp only [cntK, votesF, List.length_append]
  cases mayF d m (0 : Nat) <;> cases mayF d m (1 : Nat) <;> cases mayF d m (2 : Nat) <;> simp_all [b2]
theorem dbt_votes (d : Dv) (m : Nat) : dbt d m = decide (1 < (votesF d m).length) := by
  rw [dbt, cntK_votes]
  congr 1
  rw [eq_iff_iff]; omega
theorem doubts_len (d : Dv) : (doubtsF d).length = (List.range d.m.toNat).countP (dbt d) := by
  rw [doubtsF, dK, List.length_map, List.countP_eq_length_filter]
theorem ans_open {t : List Int} {d : Dv} {x : Int} (ho : openF d = 0) (h0 : 0 ≤ x) (hm : x < d.m) (ht : t.getD x.toNat 0 = 0 ∨ t.getD x.toNat 0 = 1 ∨ t.getD x.toNat 0 = 2) : openF (ansD t d x) = 0 := by
  obtain ⟨hf, h8⟩ := open_fault ho
  obtain ⟨hr, hc⟩ := fault_iff.1 hf
  have hf' : faultF (ansD t d x) = 0 := fault_iff.2 ⟨ans_right hr h0 hm, fun k hk => ans_cla (hc k hk)⟩
  have hl : (doubtsF (ansD t d x)).length ≤ (doubtsF d).length := by
    rw [doubts_len, doubts_len]
    refine List.countP_mono_left fun k _ hk => ?_
    rw [dbt_votes, ans_votes ht] at hk
    rw [dbt_votes]
    split at hk
    · simp at hk
    · exact hk
  rw [openF, if_neg (by omega), hf']
/-- A division after the answers of some members. -/
structure Ansd (t : List Int) (d0 d : Dv) (q : List Int) : Prop where
  same : d = { d0 with a0 := d.a0, a1 := d.a1, n0 := d.n0, n1 := d.n1 }
  op : openF d = 0
  vt : ∀ y, votesF d y = if y ∈ q then [t.getD y.toNat 0] else votesF d0 y
theorem Ansd.nil {t : List Int} {d : Dv} (h : openF d = 0) : Ansd t d d [] := ⟨rfl, h, fun y => by simp⟩
theorem Ansd.snoc {t : List Int} {d0 d : Dv} {q : List Int} {x : Int} (h : Ansd t d0 d q) (h0 : 0 ≤ x) (hm : x < d0.m) (ht : t.getD x.toNat 0 = 0 ∨ t.getD x.toNat 0 = 1 ∨ t.getD x.toNat 0 = 2) : Ansd t d0 (ansD t d x) (q ++ [x]) := by
  have em : d.m = d0.m := by rw [h.same]
  refine ⟨?_, ans_open h.op h0 (by omega) ht, fun y => ?_⟩
  · have := h.same
    unfold ansD
    generalize d.a0 = a at *
    generalize d.a1 = a at *
    generalize d.n0 = a at *
    generalize d.n1 = a at *
    subst this
    rfl
  · rw [ans_votes ht, h.vt]
    by_cases hy : y = x
    · subst hy; simp
    · simp [hy]
theorem ans_f {x : Tl} {ms : List Int} {j : Nat} (hj : j < 40) : (ansT x ms).f j = if ms.contains (j : Int) then x.1.f j else 0 := by
  rw [ansT, Tr40.of_f hj]
/-! ### The question decides -/
theorem chF_some {P : List Int → Bool} {ds : List Int} : ∀ (f fr : Nat) (now L : List Int), chF P ds f fr now = some L → P L = true ∧ ∃ r, L = now ++ r ∧ r.length = f ∧ r.Sublist (ds.drop fr)
  | 0, fr, now, L, h => by
    rw [chF] at h
    split at h
    · rename_i hp
      injection h with h; subst h
      exact ⟨hp, [], by simp, rfl, List.nil_sublist _⟩
    · cases h
  | f + 1, fr, now, L, h => by
    rw [chF] at h
    obtain ⟨j, hj, h2⟩ := List.exists_of_findSome?_eq_some h
    obtain ⟨j1, j2⟩ := List.mem_range'_1.1 hj
    have hjl : j < ds.length := by omega
    obtain ⟨hp, r, e, hl, hs⟩ := chF_some f (j + 1) _ L h2
    refine ⟨hp, ds[j] :: r, ?_, by simp [hl], ?_⟩
    · rw [e, gd0 hjl, List.append_assoc]; rfl
    · have e2 : ds.drop j = ds[j] :: ds.drop (j + 1) := List.drop_eq_getElem_cons hjl
      have e3 : (ds.drop fr).drop (j - fr) = ds.drop j := by rw [List.drop_drop]; congr 1; omega
      have h5 : (ds[j] :: r).Sublist (ds.drop j) := by rw [e2]; exact hs.cons_cons _
      exact h5.trans (by rw [← e3]; exact List.drop_sublist _ _)
theorem doubts_pw (d : Dv) : (doubtsF d).Pairwise (· < ·) := by
  rw [doubtsF, dK, List.pairwise_map]
  exact (List.pairwise_lt_range.filter _).imp fun h => Int.ofNat_lt.2 h
theorem doubts_in {d : Dv} {x : Int} : x ∈ doubtsF d ↔ ∃ k : Nat, x = k ∧ k < d.m.toNat ∧ 1 < (votesF d k).length := by
  simp only [doubtsF, dK, List.mem_map, List.mem_filter, List.mem_range, dbt_votes, decide_eq_true_eq]
  exact ⟨fun ⟨k, ⟨h1, h2⟩, e⟩ => ⟨k, e.symm, h1, h2⟩, fun ⟨k, e, h1, h2⟩ => ⟨k, ⟨h1, h2⟩, e.symm⟩⟩
theorem dec_doubts {d : Dv} (ho : openF d = 0) : decF (tolF d) (doubtsF d) = true := by
  have hr := fault_right (open_fault ho).1
  have hm := right_m hr
  refine decF_true.2 fun i k hk x y hx hy he => ?_
  obtain ⟨f, hf, rfl⟩ := List.mem_map.1 (List.mem_of_getElem? hx)
  obtain ⟨g, hg, rfl⟩ := List.mem_map.1 (List.mem_of_getElem? hy)
  obtain ⟨f1, f2⟩ := (tru_mem hr).1 hf
  obtain ⟨g1, g2⟩ := (tru_mem hr).1 hg
  have : f = g := by
    funext j
    by_cases hj : j < d.m.toNat
    · have hj40 : j < 40 := by omega
      by_cases hd : ((j : Nat) : Int) ∈ doubtsF d
      · have e : (ansT (Tr40.of f, outT d f) (doubtsF d)).f j = (ansT (Tr40.of g, outT d g) (doubtsF d)).f j := by rw [he]
        rw [ans_f hj40, ans_f hj40, if_pos (by simpa using hd), if_pos (by simpa using hd)] at e
        have e : (Tr40.of f).f j = (Tr40.of g).f j := e
        rwa [Tr40.of_f hj40, Tr40.of_f hj40] at e
      · have hl : (votesF d j).length ≤ 1 := by
          rcases Nat.lt_or_ge 1 (votesF d j).length with h | h
          · exact absurd (doubts_in.2 ⟨j, rfl, hj, h⟩) hd
          · exact h
        have h1 := f1 j hj
        have h2 := g1 j hj
        generalize votesF d j = V at hl h1 h2
        match V, hl, h1, h2 with
        | [a], _, h1, h2 => simp at h1 h2; rw [h1, h2]
        | a :: b :: r, hl, _, _ => simp at hl
    · rw [f2 j (by omega), g2 j (by omega)]
  rw [this]
theorem ask_spec {d : Dv} (ho : openF d = 0) : decF (tolF d) (askF d) = true ∧ (askF d).Sublist (doubtsF d) := by
  unfold askF
  cases h : (List.range (doubtsF d).length).findSome? (askN d) with
  | none => exact ⟨dec_doubts ho, List.Sublist.refl _⟩
  | some L =>
    obtain ⟨n, _, hn⟩ := List.exists_of_findSome?_eq_some h
    obtain ⟨h1, r, e, _, h2⟩ := chF_some _ _ _ _ hn
    rw [List.nil_append] at e
    subst e
    exact ⟨h1, h2⟩
end Go.Proofs.YtgpfejgohclheaaGreat

namespace Go.Proofs.YtgpfejgohclheaaGreat
open Go.Pal
set_option maxRecDepth 100000
end Go.Proofs.YtgpfejgohclheaaGreat

namespace Go.Proofs.YtgpfejgohclheaaGreat
open Go.Pal
set_option maxRecDepth 100000
theorem Sound.joinR {P : Program} {f : FuncId} {sh : List Value → List Value} {ι α : Type} {Ri : ι → GRel α} {qi : ι → α → Value → Hp → Prop} {R : GRel α} {q : α → Value → Hp → Prop} (h : ∀ i, Sound P f sh (grel (Ri i) (qi i))) (oi : ∀ i, GOk (Ri i)) (o : GOk R) (mq : ∀ x v G G', Grow G G' → q x v G → q x v G') (hp : ∀ args G x, R args G x → ∃ i, Ri i args G x ∧ ∀ v G', qi i x v G' → q x v G') : Sound P f sh (grel R q) := by
  refine ⟨fun args v G G' hg ⟨x, h1, h2⟩ => ⟨x, o.grow _ _ _ _ hg h1, mq _ _ _ _ hg h2⟩, fun args G W hs ⟨x, hx⟩ => ?_⟩
  obtain ⟨i, hi, hq⟩ := hp args G x hx
  refine ((h i).2 args G W hs ⟨x, hi⟩).mono ?_
  rintro e W' ⟨v, G', rfl, ⟨y, hy, hqy⟩, hg, h3, h4, h5⟩
  have : y = x := (oi i).uniq _ _ _ _ hy ((oi i).grow _ _ _ _ hg hi)
  subst this
  exact ⟨v, G', rfl, ⟨_, o.grow _ _ _ _ hg hx, hq _ _ hqy⟩, hg, h3, h4, h5⟩
abbrev hV (x : Hdr) : Value := .slice x.1 x.2.1 x.2.2
def hdE : El Hdr := ⟨1, fun h => [hV h], fun {x y} h => by
    obtain ⟨x1, x2, x3⟩ := x
    obtain ⟨y1, y2, y3⟩ := y
    simp only [hV, List.cons.injEq, Value.slice.injEq, and_true] at h
    obtain ⟨rfl, rfl, rfl⟩ := h; rfl, fun _ => rfl, fun p v hv => by
    simp only [List.mem_singleton] at hv
    rw [hv]; rfl⟩
/-- Headers and the rows that they stand for. -/
def RRs (G : Hp) (hs : List Hdr) (ts : List (List Int)) : Prop := hs.length = ts.length ∧ ∀ (i : Nat) (h : Hdr) (t : List Int), hs[i]? = some h → ts[i]? = some t → SlV u8E G (hV h) t
def RRV (G : Hp) (v : Value) (ts : List (List Int)) : Prop := ∃ hs, SlV hdE G v hs ∧ RRs G hs ts
theorem RRs.nil {G : Hp} : RRs G [] [] := ⟨rfl, fun i h t e => by simp at e⟩
theorem RRs.one {G : Hp} {h : Hdr} {t : List Int} (e : SlV u8E G (hV h) t) : RRs G [h] [t] := ⟨rfl, fun i h' t' e1 e2 => by
  cases i with
  | zero => simp at e1 e2; subst e1; subst e2; exact e
  | succ i => simp at e1⟩
theorem RRs.grow {G G' : Hp} {hs : List Hdr} {ts : List (List Int)} (hg : Grow G G') (e : RRs G hs ts) : RRs G' hs ts := ⟨e.1, fun i h t e1 e2 => (e.2 i h t e1 e2).grow hg⟩
theorem RRs.app {G : Hp} {hs hs' : List Hdr} {ts ts' : List (List Int)} (e : RRs G hs ts) (e' : RRs G hs' ts') : RRs G (hs ++ hs') (ts ++ ts') := by
  refine ⟨by rw [List.length_append, List.length_append, e.1, e'.1], fun i h t e1 e2 => ?_⟩
  by_cases hi : i < hs.length
  · rw [List.getElem?_append_left hi] at e1
    rw [List.getElem?_append_left (by rw [← e.1]; exact hi)] at e2
    exact e.2 i h t e1 e2
  · rw [List.getElem?_append_right (by omega)] at e1
    rw [List.getElem?_append_right (by rw [← e.1]; omega), ← e.1] at e2
    exact e'.2 _ h t e1 e2
theorem RRs.uniq {G : Hp} {hs : List Hdr} {ts ts' : List (List Int)} (e : RRs G hs ts) (e' : RRs G hs ts') : ts = ts' := by
  apply List.ext_getElem (by rw [← e.1, e'.1])
  intro i h1 h2
  have hi : i < hs.length := by rw [e.1]; exact h1
  exact (e.2 i hs[i] ts[i] (List.getElem?_eq_getElem hi) (List.getElem?_eq_getElem h1)).uniq (e'.2 i hs[i] ts'[i] (List.getElem?_eq_getElem hi) (List.getElem?_eq_getElem h2))
def rrRd : Rd (List (List Int)) := ⟨RRV, fun {G v x y} ⟨hs, h1, h2⟩ ⟨hs', h1', h2'⟩ => by
    have := h1.uniq h1'
    subst this
    exact h2.uniq h2', fun hg ⟨hs, h1, h2⟩ => ⟨hs, h1.grow hg, h2.grow hg⟩⟩

/-! ### What it computes -/
def trR (d : Dv) : Nat → List Int → List (List Int)
  | 0, b => [b]
  | r + 1, b => (votesF d b.length).flatMap fun v => trR d r (b ++ [v])
def voK (d : Dv) (m : Int) (v : Nat) : List Int := ((List.range v).filter fun i => mayF d m (i : Nat)).map Int.ofNat
theorem voK_succ (d : Dv) (m : Int) (v : Nat) : voK d m (v + 1) = if mayF d m v then voK d m v ++ [(v : Int)] else voK d m v := by
  simp only [voK, List.range_succ, List.filter_append, List.map_append]
  cases h : mayF d m v <;> simp [List.filter, h]
theorem voK_votes (d : Dv) (m : Int) : voK d m 3 = votesF d m := by
  rw [voK_succ, voK_succ, voK_succ]
  have h0 : voK d m 0 = [] := rfl
  rw [h0, votesF]
  show (if mayF d m 2 = true then (if mayF d m 1 = true then (if mayF d m 0 = true then [] ++ [(0 : Int)] else []) ++ [(1 : Int)] else (if mayF d m 0 = true then [] ++ [(0 : Int)] else [])) ++ [(2 : Int)] else (if mayF d m 1 = true then (if mayF d m 0 = true then [] ++ [(0 : Int)] else []) ++ [(1 : Int)] else (if mayF d m 0 = true then [] ++ [(0 : Int)] else []))) = _
  cases mayF d m 0 <;> cases mayF d m 1 <;> cases mayF d m 2 <;> rfl
theorem voK_len (d : Dv) (m : Int) (v : Nat) : (voK d m v).length ≤ v := by
  simp only [voK, List.length_map]
  exact Nat.le_trans (List.length_filter_le _ _) (by simp)
theorem trR_trK {d : Dv} (hm : d.m ≤ 40) : ∀ (r : Nat) (b : List Int) (f : Nat → Int), b.length + r = d.m.toNat → (∀ j, j < b.length → f j = b.getD j 0) → trR d r b = (trK (mayL (lookF d)) r b.length f).map fun g => (List.range d.m.toNat).map g
  | 0, b, f, hl, hf => by
    simp only [trR, trK, List.map_cons, List.map_nil, List.cons.injEq, and_true]
    apply List.ext_getElem (by simp; omega)
    intro i h1 h2
    simp only [List.getElem_map, List.getElem_range]
    rw [hf i h1, gd0 h1]
  | r + 1, b, f, hl, hf => by
    simp only [trR, trK, List.map_flatMap]
    have e : mayL (lookF d) b.length = votesF d b.length := may_look hm (by omega)
    rw [e]
    congr 1
    funext v
    have ih := trR_trK hm r (b ++ [v]) (fun j => if j = b.length then v else f j) (by simp; omega) (fun j hj => by
      simp only [List.length_append, List.length_cons, List.length_nil] at hj
      by_cases h : j = b.length
      · subst h; simp
      · rw [if_neg h, hf j (by omega)]
        simp only [List.getD_eq_getElem?_getD]
        rw [List.getElem?_append_left (by omega)])
    rw [ih, List.length_append]; rfl
theorem dcnt_part (may : Nat → List Int) {r k n : Nat} (h : k + r = n) : dcnt may r k ≤ dcnt may n 0 := by
  rw [dcnt_eq, dcnt_eq]
  have e : List.range' 0 n = List.range' 0 k ++ List.range' k r := by
    have := @List.range'_append_1 0 k r
    rw [Nat.zero_add] at this
    rw [this, h]
  rw [e, List.filter_append, List.length_append]
  omega
theorem trR_len {d : Dv} (ho : openF d = 0) {r : Nat} {b : List Int} (h : b.length + r = d.m.toNat) : (trR d r b).length ≤ 6561 := by
  obtain ⟨hf, h8⟩ := open_fault ho
  obtain ⟨hm0, hm1⟩ := fault_m hf
  rw [trR_trK hm1 r b (fun j => b.getD j 0) h (fun _ _ => rfl), List.length_map]
  have h1 := trK_bound (mayL_le3 d) r b.length (fun j => b.getD j 0)
  have h2 := dcnt_part (mayL (lookF d)) h
  have h3 : dcnt (mayL (lookF d)) d.m.toNat 0 ≤ 8 := by
    rw [dcnt_eq, ← List.range_eq_range']
    have := dbK_look (d := d) hm1
    have e : ((List.range d.m.toNat).filter fun j => decide (1 < (mayL (lookF d) j).length)).length = (dbK (lookF d) d.m.toNat).length := by
      rw [dbK, List.length_map]; rfl
    rw [e, this]; exact h8
  exact Nat.le_trans h1 (Nat.le_trans (Nat.pow_le_pow_right (by decide) (Nat.le_trans h2 h3)) (by decide))
def tabTrs : Tab Tryz.prog := Tab.cons 54 _ may44 body54 (Tab.nil _)
theorem truths18r : ∀ r, Sound Tryz.prog 19 id (grel (args2 dvRd (slRd u8E) fun d b => openF d = 0 ∧ b.length + r = d.m.toNat) fun x v G => RRV G v (trR x.1 r x.2)) := by
  intro r
  induction r with
  | zero =>
    refine comp19.grel tabTrs (ok2 _ _ _) (fun args G s h => ?_) (fun x v G G' hg ⟨hs, h1, h2⟩ => ⟨hs, h1.grow hg, h2.grow hg⟩) (fun args G x h => ?_)
    · obtain ⟨v, w, rfl, _⟩ := h; simp
    · obtain ⟨d, b⟩ := x
      obtain ⟨u, v, rfl, ⟨w0, w1, w2, w3, w4, w5, rfl, hd⟩, ⟨ab, nb, cb, rfl, hb, hbn⟩, ho, hbr⟩ := h
      dsimp only at hd hb ho hbr
      have hbl := hb.len
      obtain ⟨hm0, hm1⟩ := right_m (fault_right (open_fault ho).1)
      obtain ⟨x0, y0, z0, rfl, la0, ya0⟩ := id hd.a0
      obtain ⟨x1, y1, z1, rfl, la1, ya1⟩ := id hd.a1
      obtain ⟨x2, y2, z2, rfl, ln0, yn0⟩ := id hd.n0
      obtain ⟨x3, y3, z3, rfl, ln1, yn1⟩ := id hd.n1
      obtain ⟨x4, y4, z4, rfl, lps, yps⟩ := id hd.ps
      obtain ⟨x5, y5, z5, rfl, lqs, yqs⟩ := id hd.qs
      dsimp only
      (conv => whnf)
      refine IteP.mk (fun _ => W.mk ?_) (fun h => by exfalso; omega)
      (conv => whnf)
      refine PubP.mk (fun a1 c1 G1 hg1 hp => W.mk ?_)
      (conv => whnf)
      refine FinP.mk ⟨[(ab, nb, cb)], ?_, ?_⟩
      · exact PubRow.slV hp rfl rfl (by decide)
      · exact RRs.one ⟨_, _, _, rfl, SlR.grow (G := G) (G' := G1) (fun _ _ h => h) hb hg1, hbn⟩
  | succ r ih =>
    refine comp19.grel tabTrs (ok2 _ _ _) (fun args G s h => ?_) (fun x v G G' hg ⟨hs, h1, h2⟩ => ⟨hs, h1.grow hg, h2.grow hg⟩) (fun args G x h => ?_)
    · obtain ⟨v, w, rfl, _⟩ := h; simp
    · obtain ⟨d, b⟩ := x
      obtain ⟨u, v, rfl, ⟨w0, w1, w2, w3, w4, w5, rfl, hd⟩, ⟨ab, nb, cb, rfl, hb, hbn⟩, ho, hbr⟩ := h
      dsimp only at hd hb ho hbr
      have hbl := hb.len
      obtain ⟨hm0, hm1⟩ := right_m (fault_right (open_fault ho).1)
      have hd0 := hd
      obtain ⟨x0, y0, z0, rfl, la0, ya0⟩ := id hd.a0
      obtain ⟨x1, y1, z1, rfl, la1, ya1⟩ := id hd.a1
      obtain ⟨x2, y2, z2, rfl, ln0, yn0⟩ := id hd.n0
      obtain ⟨x3, y3, z3, rfl, ln1, yn1⟩ := id hd.n1
      obtain ⟨x4, y4, z4, rfl, lps, yps⟩ := id hd.ps
      obtain ⟨x5, y5, z5, rfl, lqs, yqs⟩ := id hd.qs
      dsimp only
      (conv => whnf)
      refine IteP.mk (fun h => by exfalso; omega) (fun _ => W.mk ?_)
      (conv => whnf)
      refine LoopP.of { α := Nat × Nat × List Value × List Hdr, fr := fun x => [(1, .v (.slice ab nb cb)), (2, .c (.ptr 0 0)), (5, .c (.row 10 x.2.1)), (6, .v (I x.1))], H := fun x => [(0, .cells .anon (DVC d x0 x1 x2 x3 x4 x5 y0 z0 y1 z1 y2 z2 y3 z3 y4 z4 y5 z5) 27), (10, .row none x.2.1 x.2.2.1 47 1)], ok := fun x G => x.1 ≤ 3 ∧ Row hdE x.2.2.2 x.2.1 x.2.2.1 ∧ RRs G x.2.2.2 ((voK d b.length x.1).flatMap fun v => trR d r (b ++ [v])), m := fun x => 3 - x.1 }
        (0, 0, [], []) (HeadP.of [(10, none)] ⟨rfl, rfl, rfl, rfl, trivial⟩ ⟨rfl, rfl, trivial⟩) ⟨Nat.zero_le _, Row.nil, RRs.nil⟩ (fun _ => ⟨rfl, rfl⟩) (fun x G1 hg1 hx => W.mk ?_)
      obtain ⟨v, n, vs, hs⟩ := x
      obtain ⟨hv3, hrow, hrr⟩ := hx
      dsimp only at hv3 hrow hrr
      have hd1 := hd0.grow hg1
      have hb1 := SlR.grow (G := G) (G' := G1) (fun _ _ h => h) hb hg1
      have hnn := hrow.n
      have hbd := flat_le (B := 6561) (l := voK d b.length v) (g := fun v => trR d r (b ++ [v])) (fun x _ => trR_len ho (by simp; omega))
      have hvl := voK_len d b.length v
      have hn2 : n ≤ 19683 := by
        rw [hnn, hrr.1]
        exact Nat.le_trans hbd (by have := Nat.mul_le_mul_right 6561 (Nat.le_trans hvl hv3); omega)
      dsimp only
      (conv => whnf)
      refine IteP.mk (fun hlt => W.mk ?_) (fun hge => W.mk ?_) <;> (conv => whnf)
      · repeat' (refine OblP.mk ?_ (W.mk ?_); (first | trivial | omega | (simp only [inR]; omega) | exact Nat.le_of_ble_eq_true (by rfl) | exact SlR.some (by assumption) (by omega)); (conv => whnf))
        refine ScaP.g (ok3 dvRd intRd u8Rd fun _ _ _ => True) (x := (d, (nb : Int), (v : Int))) ⟨_, _, _, rfl, ⟨_, _, _, _, _, _, rfl, hd1⟩, rfl, rfl, trivial⟩ (fun w hw => W.mk ?_)
        subst hw
        dsimp only
        (conv => whnf)
        refine ForkP.mk (fun hq => W.mk ?_) (fun hq => W.mk ?_) <;> (conv => whnf)
        · refine OblP.mk (fun h => hb1.some h) (W.mk ?_)
          (conv => whnf)
          refine RdP.at hb1.all.1 hb1.all.2.1 (W.mk ?_)
          (conv => whnf)
          refine OblP.mk hb1.all.2.2 (W.mk ?_)
          (conv => whnf)
          refine OblP.mk rfl (W.mk ?_)
          (conv => whnf)
          refine OblP.mk (by omega) (W.mk ?_)
          (conv => whnf)
          repeat' (first | (refine OblP.mk rfl (W.mk ?_); (conv => whnf)) | (refine OblP.mk ?_ (W.mk ?_); (first | trivial | omega | (simp only [inR]; omega) | exact Nat.le_of_ble_eq_true (by rfl) | exact SlR.some (by assumption) (by omega)); (conv => whnf)) | (first | (refine RdP.at (by assumption) (by rfl) (W.mk ?_); (conv => whnf)) | (refine RdP.sub (by assumption) (by rfl) (W.mk ?_); (conv => whnf)) | (refine RdP.sub2 (by assumption) (by rfl) (W.mk ?_); (conv => whnf)) | (refine RdP.sub3 (by assumption) (by rfl) (W.mk ?_); (conv => whnf))))
          refine PubP.mk (fun a2 c2 G2 hg2 hp => W.mk ?_)
          (conv => whnf)
          refine FnvP.mk ⟨_, SoundFn.of body19 (Sound.bare ih), W.mk ?_⟩
          (conv => whnf)
          have hp2 : SlV u8E G2 (.slice a2 (0 + nb + 1) c2) (b ++ [(v : Int)]) := by
            refine Row.pub (n := 0 + nb + 1) (vs := (b.map u8E.f).flatten ++ [U v]) ⟨by simp; omega, by simp [u8E]⟩ (by simpa using hp) (by omega)
          refine RelP.g (ok2 dvRd (slRd u8E) fun d b => openF d = 0 ∧ b.length + r = d.m.toNat) (x := (d, b ++ [(v : Int)])) ⟨_, _, rfl, ⟨_, _, _, _, _, _, rfl, hd1.grow hg2⟩, hp2, ho, by simp; omega⟩ (Grow.refl _) (fun w G3 hg3 hq2 => W.mk ?_)
          obtain ⟨hs2, ⟨aw, nw, cw, rfl, hw, hwn⟩, hrr2⟩ := hq2
          dsimp only at hrr2
          have hwl := hw.len
          have hw2 := trR_len ho (r := r) (b := b ++ [(v : Int)]) (by simp; omega)
          rw [← hrr2.1] at hw2
          (conv => whnf)
          refine OblP.mk (fun h => hw.some h) (W.mk ?_)
          (conv => whnf)
          refine RdP.at hw.all.1 hw.all.2.1 (W.mk ?_)
          (conv => whnf)
          refine OblP.mk hw.all.2.2 (W.mk ?_)
          (conv => whnf)
          refine OblP.mk rfl (W.mk ?_)
          (conv => whnf)
          refine OblP.mk (by omega) (W.mk ?_)
          (conv => whnf)
          repeat' (refine OblP.mk ?_ (W.mk ?_); (first | trivial | omega | (simp only [inR]; omega) | exact Nat.le_of_ble_eq_true (by rfl) | exact SlR.some (by assumption) (by omega)); (conv => whnf))
          refine RoundP.of (v + 1, n + nw, vs ++ (hs2.map hdE.f).flatten, hs ++ hs2) (HeadP.of [(10, some 30)] ⟨rfl, rfl, rfl, rfl, trivial⟩ ⟨rfl, rfl, trivial⟩) ⟨by show v + 1 ≤ 3; omega, ⟨by rw [List.length_append, hnn, hwl], by rw [hrow.vs, List.map_append, List.flatten_append]⟩, ?_⟩ (by simp only; omega)
          dsimp only
          rw [voK_succ, if_pos (by rw [hbl]; exact hq), List.flatMap_append]
          refine (hrr.grow (hg2.trans hg3)).app ?_
          simpa using hrr2
        · repeat' (refine OblP.mk ?_ (W.mk ?_); (first | trivial | omega | (simp only [inR]; omega) | exact Nat.le_of_ble_eq_true (by rfl) | exact SlR.some (by assumption) (by omega)); (conv => whnf))
          refine RoundP.of (v + 1, n, vs, hs) (HeadP.of [] ⟨rfl, rfl, rfl, rfl, trivial⟩ ⟨rfl, rfl, trivial⟩) ⟨by show v + 1 ≤ 3; omega, hrow, ?_⟩ (by simp only; omega)
          rw [voK_succ, if_neg (by rw [hbl, hq]; simp)]
          exact hrr
      · have : v = 3 := by omega
        subst this
        rw [voK_votes] at hrr
        refine PubP.mk (fun a1 c1 G2 hg2 hp => W.mk ?_)
        (conv => whnf)
        refine FinP.mk ⟨hs, hrow.pub hp (by omega), ?_⟩
        rw [trR]
        exact hrr.grow hg2
theorem truths18 : Sound Tryz.prog 19 id (grel (args2 dvRd (slRd u8E) fun d b => openF d = 0 ∧ b = []) fun x v G => RRV G v (trR x.1 x.1.m.toNat [])) :=
  Sound.joinR (Ri := fun r => args2 dvRd (slRd u8E) fun d b => openF d = 0 ∧ b.length + r = d.m.toNat) truths18r (fun _ => ok2 _ _ _) (ok2 _ _ _) (fun x v G G' hg ⟨hs, h1, h2⟩ => ⟨hs, h1.grow hg, h2.grow hg⟩) (fun args G x ⟨u, v, h, h1, h2, h3, h4⟩ => ⟨x.1.m.toNat, ⟨u, v, h, h1, h2, h3, by rw [h4]; simp⟩, fun v G' hq => by rw [h4] at hq; exact hq⟩)
end Go.Proofs.YtgpfejgohclheaaGreat

namespace Go.Proofs.YtgpfejgohclheaaGreat
open Go.Pal
set_option maxRecDepth 100000
def tabSm : Tab Tryz.prog := Tab.cons 22 _ few20u body22 (Tab.cons 38 _ fault14 body38 (Tab.cons 39 _ doubts16 body39 (Tab.nil _)))
theorem small9u : Sound Tryz.prog 10 id (gsca (args1 duRd fun _ => True) fun d v => v = .bool (smallF d)) := by
  refine comp10.gsca tabSm (fun args G s h => ?_) (fun args G d h => ?_)
  · obtain ⟨v, rfl, _⟩ := h; simp
  · obtain ⟨u, rfl, ⟨w0, w1, w2, w3, w4, w5, rfl, hd⟩, _⟩ := h
    have hdu : DuV G _ d := ⟨_, _, _, _, _, _, rfl, hd⟩
    obtain ⟨x0, y0, z0, rfl, la0⟩ := id hd.a0
    obtain ⟨x1, y1, z1, rfl, la1⟩ := id hd.a1
    obtain ⟨x2, y2, z2, rfl, ln0⟩ := id hd.n0
    obtain ⟨x3, y3, z3, rfl, ln1⟩ := id hd.n1
    obtain ⟨x4, y4, z4, rfl, lps⟩ := id hd.ps
    obtain ⟨x5, y5, z5, rfl, lqs⟩ := id hd.qs
    (conv => whnf)
    refine ScaP.g (ok1 duRd fun _ => True) (x := d) ⟨_, rfl, hdu, trivial⟩ (fun v hv => W.mk ?_)
    subst hv
    (conv => whnf)
    refine ForkP.mk (fun h1 => W.mk ?_) (fun h1 => W.mk ?_) <;> (conv => whnf)
    · refine ScaP.g (ok1 dvRd fun _ => True) (x := d) ⟨_, rfl, hdu.v h1, trivial⟩ (fun v hv => W.mk ?_)
      subst hv
      (conv => whnf)
      refine IteP.mk (fun h2 => W.mk ?_) (fun h2 => W.mk ?_) <;> (conv => whnf)
      · refine RelP.g (ok1 dvRd fun d => 0 ≤ d.m ∧ d.m ≤ 40) (x := d) ⟨_, rfl, hdu.v h1, by have := head_m (right_head (fault_right h2)); omega⟩ (Grow.refl _) (fun v G1 hg1 hq => W.mk ?_)
        obtain ⟨a, n, c, rfl, hl, hn⟩ := hq
        have hlen := hl.len
        (conv => whnf)
        refine IteP.mk (fun h3 => W.mk ?_) (fun h3 => W.mk ?_) <;> (conv => whnf)
        · refine FinP.mk ?_
          refine congrArg Value.bool ?_
          rw [smallF, if_pos ⟨h1, h2⟩, eq_comm, decide_eq_true_eq]; exact .inl (by omega)
        · refine IteP.mk (fun h4 => W.mk ?_) (fun h4 => W.mk ?_) <;> (conv => whnf) <;> refine FinP.mk ?_ <;> refine congrArg Value.bool ?_
          · rw [smallF, if_pos ⟨h1, h2⟩, eq_comm, decide_eq_true_eq]; exact .inr (by omega)
          · rw [smallF, if_pos ⟨h1, h2⟩, eq_comm, decide_eq_false_iff_not]; omega
      · refine ScaP.g (ok1 duRd fun _ => True) (x := d) ⟨_, rfl, hdu, trivial⟩ (fun v hv => W.mk ?_)
        subst hv
        (conv => whnf)
        refine ForkP.mk (fun h3 => W.mk ?_) (fun h3 => W.mk ?_) <;> (conv => whnf) <;> refine FinP.mk ?_ <;> refine congrArg Value.bool ?_ <;> rw [smallF, if_neg (fun h => h2 h.2), h3]
    · refine ScaP.g (ok1 duRd fun _ => True) (x := d) ⟨_, rfl, hdu, trivial⟩ (fun v hv => W.mk ?_)
      subst hv
      (conv => whnf)
      refine ForkP.mk (fun h3 => W.mk ?_) (fun h3 => W.mk ?_) <;> (conv => whnf) <;> refine FinP.mk ?_ <;> refine congrArg Value.bool ?_ <;> rw [smallF, if_neg (fun h => by rw [h.1] at h1; cases h1), h3]
end Go.Proofs.YtgpfejgohclheaaGreat

namespace Go.Proofs.YtgpfejgohclheaaGreat
open Go.Pal
def refT (d : Dv) : List (List Int) := trR d d.m.toNat []
theorem refT_eq {d : Dv} (hm : d.m ≤ 40) : refT d = (truL (lookF d)).map fun g => (List.range d.m.toNat).map g :=
  trR_trK hm d.m.toNat [] (fun _ => 0) (by simp) (fun j hj => by simp at hj)
theorem rg_get {f : Nat → Int} {M k : Nat} (h : k < M) : ((List.range M).map f).getD k 0 = f k := by simp [h]
theorem refT_out {d : Dv} (hr : rightD d = true) (f : Nat → Int) : ofF d ((List.range d.m.toNat).map f) = ofF d (trT f) :=
  ofF_ext hr fun k hk => by
    have := right_m hr
    rw [rg_get hk, trT_get (by omega)]
theorem refT_fit {d : Dv} (hr : rightD d = true) {t : List Int} (h : t ∈ refT d) : Fit d t := by
  rw [refT_eq (right_m hr).2] at h
  obtain ⟨f, hf, rfl⟩ := List.mem_map.1 h
  exact tru_fit hr hf
def decRP (d : Dv) (ts : List (List Int)) (ms : List Int) : Prop := ∀ (i k : Nat) (t u : List Int), k < i → ts[i]? = some t → ts[k]? = some u → (∀ m ∈ ms, t.getD m.toNat 0 = u.getD m.toNat 0) → outF d (ofF d t) = outF d (ofF d u)
open Classical in
noncomputable def decRF (d : Dv) (ts : List (List Int)) (ms : List Int) : Bool := decide (decRP d ts ms)
theorem same_iff {f g : Nat → Int} {M : Nat} {ms : List Int} {a b : Int} (hM : M ≤ 40) (hms : ∀ m ∈ ms, 0 ≤ m ∧ m < (M : Int)) : ansT (Tr40.of f, a) ms = ansT (Tr40.of g, b) ms ↔ ∀ m ∈ ms, ((List.range M).map f).getD m.toNat 0 = ((List.range M).map g).getD m.toNat 0 := by
  constructor
  · intro h m hm
    have hb := hms m hm
    have hk : m.toNat < M := by omega
    have hc : ms.contains ((m.toNat : Nat) : Int) = true := by rw [show ((m.toNat : Nat) : Int) = m by omega]; simpa using hm
    have e : (ansT (Tr40.of f, a) ms).f m.toNat = (ansT (Tr40.of g, b) ms).f m.toNat := by rw [h]
    rw [ans_f (by omega), ans_f (by omega), if_pos hc, if_pos hc] at e
    have e : (Tr40.of f).f m.toNat = (Tr40.of g).f m.toNat := e
    rw [Tr40.of_f (by omega), Tr40.of_f (by omega)] at e
    rw [rg_get hk, rg_get hk, e]
  · intro h
    refine Tr40.ext fun j hj => ?_
    rw [ans_f hj, ans_f hj]
    split
    · rename_i hc
      have hm : (j : Int) ∈ ms := by simpa using hc
      have hb := hms _ hm
      have hk : j < M := by omega
      have e := h _ hm
      rw [Int.toNat_natCast, rg_get hk, rg_get hk] at e
      show (Tr40.of f).f j = (Tr40.of g).f j
      rw [Tr40.of_f hj, Tr40.of_f hj, e]
    · rfl
theorem decR_dec {d : Dv} (ho : openF d = 0) {ms : List Int} (hms : ∀ m ∈ ms, 0 ≤ m ∧ m < d.m) : decRF d (refT d) ms = decF (tolF d) ms := by
  have hr := fault_right (open_fault ho).1
  have hm := right_m hr
  have hms' : ∀ m ∈ ms, 0 ≤ m ∧ m < ((d.m.toNat : Nat) : Int) := fun m h => by have := hms m h; omega
  have hd : decRP d (refT d) ms ↔ decP (tolF d) ms := by
    constructor
    · intro h i k hk x y hx hy he
      rw [tolF, List.getElem?_map] at hx hy
      obtain ⟨f, hf, rfl⟩ := Option.map_eq_some_iff.1 hx
      obtain ⟨g, hg, rfl⟩ := Option.map_eq_some_iff.1 hy
      have := h i k ((List.range d.m.toNat).map f) ((List.range d.m.toNat).map g) hk (by rw [refT_eq hm.2, List.getElem?_map, hf]; rfl) (by rw [refT_eq hm.2, List.getElem?_map, hg]; rfl) ((same_iff (by omega) hms').1 he)
      rw [refT_out hr, refT_out hr] at this
      exact this
    · intro h i k t u hk ht hu he
      rw [refT_eq hm.2, List.getElem?_map] at ht hu
      obtain ⟨f, hf, rfl⟩ := Option.map_eq_some_iff.1 ht
      obtain ⟨g, hg, rfl⟩ := Option.map_eq_some_iff.1 hu
      rw [refT_out hr, refT_out hr]
      exact h i k hk (Tr40.of f, outT d f) (Tr40.of g, outT d g) (by rw [tolF, List.getElem?_map, hf]; rfl) (by rw [tolF, List.getElem?_map, hg]; rfl) ((same_iff (by omega) hms').2 he)
  rw [decRF, decF, decide_eq_decide.2 hd]

/-! ### All sets -/
def subK (ds : List Int) (s i : Nat) : List Int := ((List.range i).filter fun k => s.testBit k).map fun k => ds.getD k 0
theorem subK_succ (ds : List Int) (s i : Nat) : subK ds s (i + 1) = if s.testBit i then subK ds s i ++ [ds.getD i 0] else subK ds s i := by
  simp only [subK, List.range_succ, List.filter_append, List.map_append]
  cases h : s.testBit i <;> simp [List.filter, h]
theorem subK_len (ds : List Int) (s i : Nat) : (subK ds s i).length ≤ i := by
  simp only [subK, List.length_map]
  exact Nat.le_trans (List.length_filter_le _ _) (by simp)
def subF (ds : List Int) (s : Nat) : List Int := subK ds s ds.length
theorem subF_cons (x : Int) (ds : List Int) (s : Nat) : subF (x :: ds) s = if s % 2 = 1 then x :: subF ds (s / 2) else subF ds (s / 2) := by
  simp only [subF, subK, List.length_cons, List.range_succ_eq_map, List.filter_cons, List.filter_map, Nat.testBit_zero]
  have e : (List.range ds.length).filter ((fun k => s.testBit k) ∘ Nat.succ) = (List.range ds.length).filter fun k => (s / 2).testBit k := by
    congr 1
    funext k
    simp [Function.comp, Nat.testBit_succ]
  rw [e]
  split
  · rename_i h
    have h : s % 2 = 1 := by simpa using h
    rw [if_pos h, List.map_cons, List.map_map]; rfl
  · rename_i h
    have h : ¬ s % 2 = 1 := by simpa using h
    rw [if_neg h, List.map_map]; rfl
theorem subF_sub : ∀ (ds : List Int) (s : Nat), (subF ds s).Sublist ds
  | [], s => by simp [subF, subK]
  | x :: ds, s => by
    rw [subF_cons]
    split
    · exact (subF_sub ds _).cons_cons _
    · exact (subF_sub ds _).cons _
theorem subF_all {l ds : List Int} (h : l.Sublist ds) : ∃ s, s < 2 ^ ds.length ∧ subF ds s = l := by
  induction h with
  | slnil => exact ⟨0, by simp, by simp [subF, subK]⟩
  | cons x h ih =>
    obtain ⟨s, h1, h2⟩ := ih
    refine ⟨2 * s, by rw [List.length_cons, Nat.pow_succ]; omega, ?_⟩
    rw [subF_cons, if_neg (by omega), show 2 * s / 2 = s by omega, h2]
  | cons_cons x h ih =>
    obtain ⟨s, h1, h2⟩ := ih
    refine ⟨2 * s + 1, by rw [List.length_cons, Nat.pow_succ]; omega, ?_⟩
    rw [subF_cons, if_pos (by omega), show (2 * s + 1) / 2 = s by omega, h2]
def lessF : List Int → List Int → Bool
  | x :: a, y :: b => if x = y then lessF a b else decide (x < y)
  | _, _ => false
def ltQ (a b : List Int) : Bool := decide (a.length < b.length) || (decide (a.length = b.length) && lessF a b)
theorem less_irr : ∀ a, lessF a a = false
  | [] => rfl
  | x :: a => by rw [lessF, if_pos rfl, less_irr a]
theorem less_tri : ∀ {a b : List Int}, a.length = b.length → lessF a b = false → lessF b a = false → a = b
  | [], [], _, _, _ => rfl
  | x :: a, y :: b, h, h1, h2 => by
    rw [lessF] at h1 h2
    by_cases e : x = y
    · subst e
      rw [if_pos rfl] at h1 h2
      rw [less_tri (by simpa using h) h1 h2]
    · rw [if_neg e] at h1
      rw [if_neg (fun e' => e e'.symm)] at h2
      simp only [decide_eq_false_iff_not] at h1 h2
      omega
theorem less_trans : ∀ {a b c : List Int}, lessF a b = true → lessF b c = true → lessF a c = true
  | [], _, _, h, _ => by simp [lessF] at h
  | x :: a, [], _, h, _ => by simp [lessF] at h
  | x :: a, y :: b, [], _, h => by simp [lessF] at h
  | x :: a, y :: b, z :: c, h1, h2 => by
    rw [lessF] at h1 h2 ⊢
    by_cases e1 : x = y
    · subst e1
      rw [if_pos rfl] at h1
      by_cases e2 : x = z
      · subst e2
        rw [if_pos rfl] at h2 ⊢
        exact less_trans h1 h2
      · rw [if_neg e2] at h2 ⊢; exact h2
    · rw [if_neg e1] at h1
      by_cases e2 : y = z
      · subst e2; rw [if_neg e1]; exact h1
      · rw [if_neg e2] at h2
        simp only [decide_eq_true_eq] at h1 h2
        rw [if_neg (by omega), decide_eq_true_eq]; omega
theorem ltQ_irr (a : List Int) : ltQ a a = false := by simp [ltQ, less_irr]
theorem ltQ_iff {a b : List Int} : ltQ a b = true ↔ a.length < b.length ∨ (a.length = b.length ∧ lessF a b = true) := by simp [ltQ]
theorem ltQ_trans {a b c : List Int} (h1 : ltQ a b = true) (h2 : ltQ b c = true) : ltQ a c = true := by
  rw [ltQ_iff] at *
  rcases h1 with h1 | ⟨h1, k1⟩ <;> rcases h2 with h2 | ⟨h2, k2⟩
  · exact .inl (by omega)
  · exact .inl (by omega)
  · exact .inl (by omega)
  · exact .inr ⟨by omega, less_trans k1 k2⟩
theorem ltQ_tri {a b : List Int} (h1 : ltQ a b = false) (h2 : ltQ b a = false) : a = b := by
  have h1' : ¬ (a.length < b.length ∨ (a.length = b.length ∧ lessF a b = true)) := fun h => by rw [ltQ_iff.2 h] at h1; cases h1
  have h2' : ¬ (b.length < a.length ∨ (b.length = a.length ∧ lessF b a = true)) := fun h => by rw [ltQ_iff.2 h] at h2; cases h2
  have hl : a.length = b.length := by
    rcases Nat.lt_trichotomy a.length b.length with h | h | h
    · exact absurd (.inl h) h1'
    · exact h
    · exact absurd (.inl h) h2'
  refine less_tri hl ?_ ?_
  · cases h : lessF a b with
    | false => rfl
    | true => exact absurd (.inr ⟨hl, h⟩) h1'
  · cases h : lessF b a with
    | false => rfl
    | true => exact absurd (.inr ⟨hl.symm, h⟩) h2'
theorem sub_cons {x : Int} {l : List Int} : ∀ {m : List Int}, (x :: l).Sublist m → ∃ j, ∃ h : j < m.length, m[j] = x ∧ l.Sublist (m.drop (j + 1))
  | [], h => by cases h
  | y :: m, h => by
    cases h with
    | cons _ h =>
      obtain ⟨j, hj, e, hs⟩ := sub_cons h
      exact ⟨j + 1, by simp; omega, by simpa using e, by simpa using hs⟩
    | cons_cons _ h => exact ⟨0, by simp, rfl, by simpa using h⟩
theorem chF_min {P : List Int → Bool} {ds : List Int} (hpw : ds.Pairwise (· < ·)) : ∀ (f fr : Nat) (now l : List Int), fr ≤ ds.length → l.Sublist (ds.drop fr) → l.length = f → P (now ++ l) = true → ∃ r, chF P ds f fr now = some (now ++ r) ∧ lessF l r = false
  | 0, fr, now, l, _, _, hl, hp => by
    have : l = [] := List.length_eq_zero_iff.1 hl
    subst this
    rw [List.append_nil] at hp
    exact ⟨[], by rw [chF, if_pos hp, List.append_nil], rfl⟩
  | f + 1, fr, now, [], _, _, hl, _ => by simp at hl
  | f + 1, fr, now, x :: l, hfr, hs, hl, hp => by
    obtain ⟨j, hj, e, hs⟩ := sub_cons hs
    rw [List.length_drop] at hj
    rw [List.getElem_drop] at e
    rw [List.drop_drop] at hs
    have hjl : fr + j < ds.length := by omega
    have ih := chF_min hpw f (fr + j + 1) (now ++ [x]) l (by omega) (by rw [show fr + j + 1 = fr + (j + 1) by omega]; exact hs) (by simpa using hl) (by simpa using hp)
    obtain ⟨r, hr, hless⟩ := ih
    have hgj : chF P ds f (fr + j + 1) (now ++ [ds.getD (fr + j) 0]) = some (now ++ (x :: r)) := by
      rw [gd0 hjl, e, hr]; simp
    have hmem : fr + j ∈ List.range' fr (ds.length - fr) := List.mem_range'_1.2 ⟨by omega, by omega⟩
    cases hq : (List.range' fr (ds.length - fr)).findSome? fun j => chF P ds f (j + 1) (now ++ [ds.getD j 0]) with
    | none =>
      rw [List.findSome?_eq_none_iff] at hq
      have := hq _ hmem
      rw [hgj] at this; cases this
    | some L =>
      obtain ⟨l1, a, l2, e1, e2, e3⟩ := List.findSome?_eq_some_iff.1 hq
      have hpr : (List.range' fr (ds.length - fr)).Pairwise (· < ·) := List.pairwise_lt_range'
      have ha : a ∈ List.range' fr (ds.length - fr) := by rw [e1]; simp
      obtain ⟨a1, a2⟩ := List.mem_range'_1.1 ha
      rw [e1] at hmem hpr
      have hle : a ≤ fr + j := by
        rcases List.mem_append.1 hmem with h | h
        · have := e3 _ h
          rw [hgj] at this; cases this
        · rcases List.mem_cons.1 h with h | h
          · omega
          · have := (List.pairwise_cons.1 (List.pairwise_append.1 hpr).2.1).1 _ h
            omega
      rw [chF, hq]
      rcases Nat.lt_or_eq_of_le hle with h | h
      · obtain ⟨_, r2, e4, _, _⟩ := chF_some _ _ _ _ e2
        have hal : a < ds.length := by omega
        refine ⟨ds[a] :: r2, by rw [e4, gd0 hal]; simp, ?_⟩
        have hlt := List.pairwise_iff_getElem.1 hpw a (fr + j) hal hjl h
        rw [e] at hlt
        rw [lessF, if_neg (by omega), decide_eq_false_iff_not]; omega
      · subst h
        rw [hgj] at e2
        refine ⟨x :: r, by rw [← e2], ?_⟩
        rw [lessF, if_pos rfl]; exact hless
theorem ask_min {d : Dv} {l : List Int} (hs : l.Sublist (doubtsF d)) (hp : decF (tolF d) l = true) : ltQ l (askF d) = false := by
  have key : ∃ r, askN d l.length = some r ∧ lessF l r = false := by
    obtain ⟨r, h1, h2⟩ := chF_min (doubts_pw d) l.length 0 [] l (Nat.zero_le _) (by simpa using hs) rfl (by simpa using hp)
    exact ⟨r, by simpa [askN] using h1, h2⟩
  obtain ⟨r, hr, hless⟩ := key
  have hle := hs.length_le
  unfold askF
  cases hq : (List.range (doubtsF d).length).findSome? (askN d) with
  | none =>
    rw [List.findSome?_eq_none_iff] at hq
    have hn : ¬ l.length < (doubtsF d).length := fun h => by
      have := hq _ (List.mem_range.2 h)
      rw [hr] at this; cases this
    have e : l = doubtsF d := hs.eq_of_length (by omega)
    rw [Option.getD_none, e]
    exact ltQ_irr _
  | some L =>
    obtain ⟨l1, a, l2, e1, e2, e3⟩ := List.findSome?_eq_some_iff.1 hq
    obtain ⟨_, r2, e4, hl, _⟩ := chF_some _ _ _ _ e2
    rw [List.nil_append] at e4
    subst e4
    rw [Option.getD_some]
    have ha : a ≤ l.length := by
      rcases Nat.lt_or_ge l.length a with h | h
      · have hmem : l.length ∈ l1 := by
          have hpr : (List.range (doubtsF d).length).Pairwise (· < ·) := List.pairwise_lt_range
          have ha : a ∈ List.range (doubtsF d).length := by rw [e1]; simp
          have hm : l.length ∈ List.range (doubtsF d).length := List.mem_range.2 (by have := List.mem_range.1 ha; omega)
          rw [e1] at hm hpr
          rcases List.mem_append.1 hm with h2 | h2
          · exact h2
          · rcases List.mem_cons.1 h2 with h2 | h2
            · omega
            · have := (List.pairwise_cons.1 (List.pairwise_append.1 hpr).2.1).1 _ h2
              omega
        have := e3 _ hmem
        rw [hr] at this; cases this
      · exact h
    cases hlt : ltQ l L with
    | false => rfl
    | true =>
      rcases ltQ_iff.1 hlt with h | ⟨h, h2⟩
      · omega
      · have : l.length = a := by omega
        rw [this, e2] at hr
        cases hr
        rw [hless] at h2; cases h2
/-- The best of the sets below one. -/
def bestK (P : List Int → Bool) (ds : List Int) : Nat → List Int
  | 0 => ds
  | s + 1 => if ltQ (subF ds s) (bestK P ds s) && P (subF ds s) then subF ds s else bestK P ds s
theorem bestK_sub {P : List Int → Bool} {ds : List Int} (hP : P ds = true) : ∀ s, (bestK P ds s).Sublist ds ∧ P (bestK P ds s) = true
  | 0 => ⟨List.Sublist.refl _, hP⟩
  | s + 1 => by
    rw [bestK]
    split
    · rename_i h
      exact ⟨subF_sub ds s, (Bool.and_eq_true_iff.1 h).2⟩
    · exact bestK_sub hP s
theorem bestK_min {P : List Int → Bool} {ds : List Int} : ∀ s k, k < s → P (subF ds k) = true → ltQ (subF ds k) (bestK P ds s) = false
  | 0, k, h, _ => by omega
  | s + 1, k, h, hp => by
    rw [bestK]
    rcases Nat.lt_succ_iff_lt_or_eq.1 h with h | rfl
    · have ih := bestK_min s k h hp
      split
      · rename_i hc
        cases hq : ltQ (subF ds k) (subF ds s) with
        | false => rfl
        | true =>
          have := ltQ_trans hq (Bool.and_eq_true_iff.1 hc).1
          rw [ih] at this; cases this
      · exact ih
    · split
      · exact ltQ_irr _
      · rename_i hc
        cases hq : ltQ (subF ds k) (bestK P ds k) with
        | false => rfl
        | true => rw [hq, hp] at hc; exact absurd rfl hc
theorem ask_best {d : Dv} (ho : openF d = 0) : bestK (decF (tolF d)) (doubtsF d) (2 ^ (doubtsF d).length) = askF d := by
  obtain ⟨h1, h2⟩ := bestK_sub (P := decF (tolF d)) (dec_doubts ho) (2 ^ (doubtsF d).length)
  obtain ⟨h3, h4⟩ := ask_spec ho
  obtain ⟨s, hs, e⟩ := subF_all h4
  have h5 := bestK_min (P := decF (tolF d)) (ds := doubtsF d) _ s hs (by rw [e]; exact h3)
  rw [e] at h5
  exact ltQ_tri (ask_min h1 h2) h5
end Go.Proofs.YtgpfejgohclheaaGreat

namespace Go.Proofs.YtgpfejgohclheaaGreat
open Go.Pal
set_option maxRecDepth 100000
theorem less55 : Sound Tryz.prog 55 id (gsca (args2 (slRd intE) (slRd intE) fun a b => a.length = b.length) fun x v => v = .bool (lessF x.1 x.2)) := by
  refine comp55.gsca (Tab.nil _) (fun args G s h => ?_) (fun args G x h => ?_)
  · obtain ⟨v, w, rfl, _⟩ := h; simp
  · obtain ⟨l, r⟩ := x
    obtain ⟨u, v, rfl, ⟨a, n, c, rfl, hl, hn⟩, ⟨a', n', c', rfl, hl', hn'⟩, he⟩ := h
    dsimp only at hl hl' he
    have e1 := hl.len
    have e2 := hl'.len
    dsimp only
    (conv => whnf)
    refine LoopP.of { α := Nat, fr := fun x => [(0, .v (.slice a n c)), (1, .v (.slice a' n' c')), (5, .v (I x))], H := fun _ => [], ok := fun i _ => i ≤ n ∧ lessF (l.drop i) (r.drop i) = lessF l r, m := fun x => n - x }
      0 (HeadP.of [] ⟨rfl, rfl, rfl, trivial⟩ trivial) ⟨Nat.zero_le _, rfl⟩ (fun _ => ⟨rfl, rfl⟩) (fun (i : Nat) G' hG hx => W.mk ?_)
    obtain ⟨hi, hx⟩ := hx
    have hl1 := SlR.grow (G := G) (G' := G') (fun _ _ h => h) hl hG
    have hl1' := SlR.grow (G := G) (G' := G') (fun _ _ h => h) hl' hG
    dsimp only
    (conv => whnf)
    refine IteP.mk (fun hlt => W.mk ?_) (fun hge => W.mk ?_) <;> (conv => whnf)
    · have hlt : i < l.length := by omega
      have hlt' : i < r.length := by omega
      have hc := hl1.el hlt
      have hc' := hl1'.el hlt'
      rw [List.drop_eq_getElem_cons hlt, List.drop_eq_getElem_cons hlt', lessF] at hx
      generalize l[i] = p at hc hx
      generalize r[i] = q at hc' hx
      repeat' (first | (refine OblP.mk ?_ (W.mk ?_); (first | trivial | omega | (simp only [inR]; omega) | exact Nat.le_of_ble_eq_true (by rfl) | exact SlR.some (by assumption) (by omega)); (conv => whnf)) | (first | (refine RdP.at (by assumption) (by rfl) (W.mk ?_); (conv => whnf)) | (refine RdP.sub (by assumption) (by rfl) (W.mk ?_); (conv => whnf)) | (refine RdP.sub2 (by assumption) (by rfl) (W.mk ?_); (conv => whnf)) | (refine RdP.sub3 (by assumption) (by rfl) (W.mk ?_); (conv => whnf))))
      refine IteP.mk (fun hq => W.mk ?_) (fun hq => W.mk ?_) <;> (conv => whnf)
      · have hq : p = q := hq
        rw [if_pos hq] at hx
        repeat' (first | (refine OblP.mk ?_ (W.mk ?_); (first | trivial | omega | (simp only [inR]; omega) | exact Nat.le_of_ble_eq_true (by rfl) | exact SlR.some (by assumption) (by omega)); (conv => whnf)) | (first | (refine RdP.at (by assumption) (by rfl) (W.mk ?_); (conv => whnf)) | (refine RdP.sub (by assumption) (by rfl) (W.mk ?_); (conv => whnf)) | (refine RdP.sub2 (by assumption) (by rfl) (W.mk ?_); (conv => whnf)) | (refine RdP.sub3 (by assumption) (by rfl) (W.mk ?_); (conv => whnf))))
        exact RoundP.of (i + 1) (HeadP.of [] ⟨rfl, rfl, rfl, trivial⟩ trivial) ⟨by omega, hx⟩ (by simp only; omega)
      · have hq : ¬ p = q := hq
        rw [if_neg hq] at hx
        repeat' (first | (refine OblP.mk ?_ (W.mk ?_); (first | trivial | omega | (simp only [inR]; omega) | exact Nat.le_of_ble_eq_true (by rfl) | exact SlR.some (by assumption) (by omega)); (conv => whnf)) | (first | (refine RdP.at (by assumption) (by rfl) (W.mk ?_); (conv => whnf)) | (refine RdP.sub (by assumption) (by rfl) (W.mk ?_); (conv => whnf)) | (refine RdP.sub2 (by assumption) (by rfl) (W.mk ?_); (conv => whnf)) | (refine RdP.sub3 (by assumption) (by rfl) (W.mk ?_); (conv => whnf))))
        refine IteP.mk (fun hp => W.mk ?_) (fun hp => W.mk ?_) <;> (conv => whnf) <;> refine FinP.mk ?_ <;> (refine congrArg Value.bool ?_; rw [← hx]; symm; simpa using hp)
    · have : i = n := by omega
      subst this
      rw [List.drop_of_length_le (by omega), List.drop_of_length_le (by omega)] at hx
      refine FinP.mk ?_
      refine congrArg Value.bool ?_
      rw [← hx]; rfl
def tabDf : Tab Tryz.prog := Tab.cons 39 _ doubts16 body39 (Tab.cons 52 _ has28 body52 (Tab.cons 53 _ ris71 body53 (Tab.nil _)))
theorem doubtful17 : Sound Tryz.prog 17 id (gsca (args2 dvRd (slRd intE) fun d _ => 0 ≤ d.m ∧ d.m ≤ 40) fun x v => v = .bool (amongF x.1 x.2 && risF x.2)) := by
  refine comp17.gsca tabDf (fun args G s h => ?_) (fun args G x h => ?_)
  · obtain ⟨v, w, rfl, _⟩ := h; simp
  · obtain ⟨d, ms⟩ := x
    obtain ⟨u, v, rfl, ⟨w0, w1, w2, w3, w4, w5, rfl, hd⟩, ⟨a, n, c, rfl, hl, hn⟩, hm0, hm1⟩ := h
    dsimp only at hd hl hm0 hm1
    have e1 := hl.len
    have hdv : DvV G _ d := ⟨_, _, _, _, _, _, rfl, hd⟩
    obtain ⟨x0, y0, z0, rfl, la0, ya0⟩ := id hd.a0
    obtain ⟨x1, y1, z1, rfl, la1, ya1⟩ := id hd.a1
    obtain ⟨x2, y2, z2, rfl, ln0, yn0⟩ := id hd.n0
    obtain ⟨x3, y3, z3, rfl, ln1, yn1⟩ := id hd.n1
    obtain ⟨x4, y4, z4, rfl, lps, yps⟩ := id hd.ps
    obtain ⟨x5, y5, z5, rfl, lqs, yqs⟩ := id hd.qs
    dsimp only
    (conv => whnf)
    refine RelP.g (ok1 dvRd fun d => 0 ≤ d.m ∧ d.m ≤ 40) (x := d) ⟨_, rfl, hdv, hm0, hm1⟩ (Grow.refl _) (fun v G1 hg1 hq => W.mk ?_)
    obtain ⟨a2, n2, c2, rfl, hl2, hn2⟩ := hq
    (conv => whnf)
    refine LoopP.of { α := Nat, fr := fun x => [(1, .v (.slice a n c)), (5, .v (.slice a2 n2 c2)), (6, .v (I x))], H := fun _ => [], ok := fun i _ => i ≤ n ∧ (ms.drop i).all (fun m => (doubtsF d).contains m) = amongF d ms, m := fun x => n - x }
      0 (HeadP.of [] ⟨rfl, rfl, rfl, trivial⟩ trivial) ⟨Nat.zero_le _, rfl⟩ (fun _ => ⟨rfl, rfl⟩) (fun (i : Nat) G' hG hx => W.mk ?_)
    obtain ⟨hi, hx⟩ := hx
    have hl1 := SlR.grow (G := G) (G' := G') (fun _ _ h => h) hl (hg1.trans hG)
    have hl21 := SlR.grow (G := G1) (G' := G') (fun _ _ h => h) hl2 hG
    dsimp only
    (conv => whnf)
    refine IteP.mk (fun hlt => W.mk ?_) (fun hge => W.mk ?_) <;> (conv => whnf)
    · have hlt : i < ms.length := by omega
      have hc := hl1.el hlt
      rw [List.drop_eq_getElem_cons hlt, List.all_cons] at hx
      generalize ms[i] = p at hc hx
      repeat' (first | (refine OblP.mk ?_ (W.mk ?_); (first | trivial | omega | (simp only [inR]; omega) | exact Nat.le_of_ble_eq_true (by rfl) | exact SlR.some (by assumption) (by omega)); (conv => whnf)) | (first | (refine RdP.at (by assumption) (by rfl) (W.mk ?_); (conv => whnf)) | (refine RdP.sub (by assumption) (by rfl) (W.mk ?_); (conv => whnf)) | (refine RdP.sub2 (by assumption) (by rfl) (W.mk ?_); (conv => whnf)) | (refine RdP.sub3 (by assumption) (by rfl) (W.mk ?_); (conv => whnf))))
      refine ScaP.g (ok2 (slRd intE) intRd fun _ _ => True) (x := (doubtsF d, p)) ⟨_, _, rfl, ⟨_, _, _, rfl, hl21, hn2⟩, rfl, trivial⟩ (fun v hv => W.mk ?_)
      subst hv
      dsimp only
      (conv => whnf)
      refine ForkP.mk (fun hq => W.mk ?_) (fun hq => W.mk ?_) <;> (conv => whnf)
      · rw [hq, Bool.true_and] at hx
        repeat' (first | (refine OblP.mk ?_ (W.mk ?_); (first | trivial | omega | (simp only [inR]; omega) | exact Nat.le_of_ble_eq_true (by rfl) | exact SlR.some (by assumption) (by omega)); (conv => whnf)) | (first | (refine RdP.at (by assumption) (by rfl) (W.mk ?_); (conv => whnf)) | (refine RdP.sub (by assumption) (by rfl) (W.mk ?_); (conv => whnf)) | (refine RdP.sub2 (by assumption) (by rfl) (W.mk ?_); (conv => whnf)) | (refine RdP.sub3 (by assumption) (by rfl) (W.mk ?_); (conv => whnf))))
        exact RoundP.of (i + 1) (HeadP.of [] ⟨rfl, rfl, rfl, trivial⟩ trivial) ⟨by omega, hx⟩ (by simp only; omega)
      · rw [hq, Bool.false_and] at hx
        refine FinP.mk ?_
        refine congrArg Value.bool ?_
        rw [← hx]; rfl
    · have : i = n := by omega
      subst this
      rw [List.drop_of_length_le (by omega)] at hx
      refine ScaP.g (ok1 (slRd intE) fun _ => True) (x := ms) ⟨_, rfl, ⟨_, _, _, rfl, hl1, hn⟩, trivial⟩ (fun v hv => W.mk ?_)
      subst hv
      (conv => whnf)
      refine ForkP.mk (fun hq => W.mk ?_) (fun hq => W.mk ?_) <;> (conv => whnf) <;> refine FinP.mk ?_ <;> (refine congrArg Value.bool ?_; rw [← hx, hq]; rfl)
/-- What Of asks of a truth that fits. -/
theorem tr_of {d : Dv} {t : List Int} (hr : rightD d = true) (hfw : fewF d = true) (h : Fit d t) : Tr d t := by
  have hm := right_m hr
  have hl := h.1
  exact ⟨by omega, by omega, by omega, fun k hk => h.vote _ (List.getElem_mem _), by simp only [fewF, Bool.and_eq_true, decide_eq_true_eq] at hfw; omega, fun p hp => by
    obtain ⟨k, hk, rfl⟩ := List.getElem_of_mem hp
    have := right_qs hr hk
    exact ⟨this.1.1, this.1.2, this.2.1, this.2.2⟩⟩
def sameB (t u : List Int) (ms : List Int) : Bool := ms.all fun m => decide (t.getD m.toNat 0 = u.getD m.toNat 0)
theorem same_succ {t u ms : List Int} {k : Nat} (h : k < ms.length) : sameB t u (ms.take (k + 1)) = (sameB t u (ms.take k) && decide (t.getD (ms[k]).toNat 0 = u.getD (ms[k]).toNat 0)) := by
  rw [take_snoc h, sameB, sameB, List.all_append]; simp
def rrGhost (d : Dv) (ts : List (List Int)) (ms : List Int) : Prop := rightD d = true ∧ fewF d = true ∧ (∀ t ∈ ts, Fit d t) ∧ (∀ m ∈ ms, 0 ≤ m ∧ m < d.m) ∧ ts.length ≤ 6561
def tabDd : Tab Tryz.prog := Tab.cons 28 _ of19 body28 (Tab.cons 29 _ out32 body29 (Tab.nil _))
def noBad (d : Dv) (ts : List (List Int)) (ms : List Int) (i : Nat) (j : Nat) : Prop := ∀ k t u, k < j → ts[i]? = some t → ts[k]? = some u → sameB t u ms = true → outF d (ofF d t) = outF d (ofF d u)
open Classical in
theorem decRF_true {d : Dv} {ts : List (List Int)} {ms : List Int} : decRF d ts ms = true ↔ decRP d ts ms := by rw [decRF, decide_eq_true_eq]
open Classical in
theorem decRF_false {d : Dv} {ts : List (List Int)} {ms : List Int} : decRF d ts ms = false ↔ ¬ decRP d ts ms := by rw [decRF, decide_eq_false_iff_not]
theorem decRF_of {d : Dv} {ts : List (List Int)} {ms : List Int} (h : ∀ i, i < ts.length → noBad d ts ms i i) : decRF d ts ms = true := by
  rw [decRF_true]
  intro i k t u hk ht hu he
  have hi : i < ts.length := (List.getElem?_eq_some_iff.1 ht).1
  exact h i hi k t u hk ht hu (by rw [sameB, List.all_eq_true]; exact fun m hm => decide_eq_true (he m hm))
theorem decRF_not {d : Dv} {ts : List (List Int)} {ms : List Int} {i k : Nat} {t u : List Int} (hk : k < i) (ht : ts[i]? = some t) (hu : ts[k]? = some u) (hs : sameB t u ms = true) (hn : outF d (ofF d t) ≠ outF d (ofF d u)) : decRF d ts ms = false := by
  rw [decRF_false]
  intro h
  refine hn (h i k t u hk ht hu fun m hm => ?_)
  rw [sameB, List.all_eq_true] at hs
  simpa using hs m hm
set_option maxHeartbeats 1000000
theorem decide18 : Sound Tryz.prog 18 id (gsca (args3 dvRd rrRd (slRd intE) rrGhost) fun x v => v = .bool (decRF x.1 x.2.1 x.2.2)) := by
  refine comp18.gsca tabDd (fun args G s h => ?_) (fun args G x h => ?_)
  · obtain ⟨v, w, w', rfl, _⟩ := h; simp
  · obtain ⟨d, ts, ms⟩ := x
    obtain ⟨u, v, w, rfl, ⟨w0, w1, w2, w3, w4, w5, rfl, hd⟩, ⟨hs, ⟨at_, nt, ct, rfl, hH, hHn⟩, hRR⟩, ⟨a, n, c, rfl, hM, hMn⟩, hr, hfw, hfit, hms, htl⟩ := h
    dsimp only at hd hRR hM hr hfw hfit hms htl
    have e1 := hH.len
    have e2 := hM.len
    have e3 := hRR.1
    have hdv : DvV G _ d := ⟨_, _, _, _, _, _, rfl, hd⟩
    obtain ⟨x0, y0, z0, rfl, la0, ya0⟩ := id hd.a0
    obtain ⟨x1, y1, z1, rfl, la1, ya1⟩ := id hd.a1
    obtain ⟨x2, y2, z2, rfl, ln0, yn0⟩ := id hd.n0
    obtain ⟨x3, y3, z3, rfl, ln1, yn1⟩ := id hd.n1
    obtain ⟨x4, y4, z4, rfl, lps, yps⟩ := id hd.ps
    obtain ⟨x5, y5, z5, rfl, lqs, yqs⟩ := id hd.qs
    dsimp only
    (conv => whnf)
    refine LoopP.of { α := Nat, fr := fun x => [(1, .v (.slice at_ nt ct)), (2, .v (.slice a n c)), (3, .c (.ptr 0 0)), (7, .v (I x))], H := fun _ => [(0, .cells .anon (DVC d x0 x1 x2 x3 x4 x5 y0 z0 y1 z1 y2 z2 y3 z3 y4 z4 y5 z5) 27)], ok := fun i _ => i ≤ nt ∧ ∀ i', i' < i → noBad d ts ms i' i', m := fun x => nt - x }
      0 (HeadP.of [] ⟨rfl, rfl, rfl, rfl, trivial⟩ ⟨rfl, trivial⟩) ⟨Nat.zero_le _, fun i' h => by omega⟩ (fun _ => ⟨rfl, rfl⟩) (fun (i : Nat) G1 hg1 hx => W.mk ?_)
    obtain ⟨hi, hx⟩ := hx
    dsimp only
    (conv => whnf)
    refine IteP.mk (fun hlt => W.mk ?_) (fun hge => W.mk ?_) <;> (conv => whnf)
    rotate_left
    · have : i = nt := by omega
      subst this
      refine FinP.mk ?_
      refine congrArg Value.bool ?_
      exact (decRF_of fun k hk => hx k (by omega)).symm
    have hlt : i < hs.length := by omega
    have hlt2 : i < ts.length := by omega
    have hti : ts[i]? = some ts[i] := List.getElem?_eq_getElem hlt2
    have hfi := hfit _ (List.getElem_mem hlt2)
    have hsi := hRR.2 i hs[i] ts[i] (List.getElem?_eq_getElem hlt) hti
    have hci := hH.el hlt
    generalize hs[i] = hh at hsi hci
    generalize ts[i] = t at hti hfi hsi
    obtain ⟨ai, ni, ci⟩ := hh
    obtain ⟨_, _, _, e, hti1, hti2⟩ := hsi
    cases e
    have hil := hti1.len
    have hil2 := hfi.1
    refine LoopP.of { α := Nat, fr := fun x => [(1, .v (.slice at_ nt ct)), (2, .v (.slice a n c)), (3, .c (.ptr 0 0)), (7, .v (I i)), (8, .v (I x))], H := fun _ => [(0, .cells .anon (DVC d x0 x1 x2 x3 x4 x5 y0 z0 y1 z1 y2 z2 y3 z3 y4 z4 y5 z5) 27)], ok := fun j _ => j ≤ i ∧ noBad d ts ms i j, m := fun x => i - x }
      0 (HeadP.of [] ⟨rfl, rfl, rfl, rfl, rfl, trivial⟩ ⟨rfl, trivial⟩) ⟨Nat.zero_le _, fun k t u h => by omega⟩ (fun _ => ⟨rfl, rfl⟩) (fun (j : Nat) G2 hg2 hx2 => W.mk ?_)
    obtain ⟨hj, hx2⟩ := hx2
    dsimp only
    (conv => whnf)
    refine IteP.mk (fun hlj => W.mk ?_) (fun hge => W.mk ?_) <;> (conv => whnf)
    rotate_left
    · have : j = i := by omega
      subst this
      repeat' (refine OblP.mk ?_ (W.mk ?_); (first | trivial | omega | (simp only [inR]; omega) | exact Nat.le_of_ble_eq_true (by rfl) | exact SlR.some (by assumption) (by omega)); (conv => whnf))
      refine RoundP.of (j + 1) (HeadP.of [] ⟨rfl, rfl, rfl, rfl, trivial⟩ ⟨rfl, trivial⟩) ⟨by omega, fun i' h => ?_⟩ (by simp only; omega)
      rcases Nat.lt_succ_iff_lt_or_eq.1 h with h | rfl
      · exact hx i' h
      · exact hx2
    have hlj0 : j < i := by omega
    have hlj : j < hs.length := by omega
    have hlj2 : j < ts.length := by omega
    have htj : ts[j]? = some ts[j] := List.getElem?_eq_getElem hlj2
    have hfj := hfit _ (List.getElem_mem hlj2)
    have hsj := hRR.2 j hs[j] ts[j] (List.getElem?_eq_getElem hlj) htj
    have hcj := hH.el hlj
    generalize hs[j] = hh at hsj hcj
    generalize ts[j] = u at htj hfj hsj
    obtain ⟨aj, nj, cj⟩ := hh
    obtain ⟨_, _, _, e, htj1, htj2⟩ := hsj
    cases e
    have hjl := htj1.len
    have hjl2 := hfj.1
    refine LoopP.of { α := Nat, fr := fun x => [(1, .v (.slice at_ nt ct)), (2, .v (.slice a n c)), (3, .c (.ptr 0 0)), (7, .v (I i)), (8, .v (I j)), (9, .v (.bool (sameB t u (ms.take x)))), (10, .v (I x))], H := fun _ => [(0, .cells .anon (DVC d x0 x1 x2 x3 x4 x5 y0 z0 y1 z1 y2 z2 y3 z3 y4 z4 y5 z5) 27)], ok := fun k _ => k ≤ n, m := fun x => n - x }
      0 (HeadP.of [] ⟨rfl, rfl, rfl, rfl, rfl, rfl, rfl, trivial⟩ ⟨rfl, trivial⟩) (Nat.zero_le _) (fun _ => ⟨rfl, rfl⟩) (fun (k : Nat) G3 hg3 hx3 => W.mk ?_)
    dsimp only at hx3
    have hg03 := (hg1.trans hg2).trans hg3
    have hM3 := SlR.grow (G := G) (G' := G3) (fun _ _ h => h) hM hg03
    have hci := CellsAt.grow hg03 hci
    have hcj := CellsAt.grow hg03 hcj
    have hti3 := SlR.grow (G := G) (G' := G3) (fun _ _ h => h) hti1 hg03
    have htj3 := SlR.grow (G := G) (G' := G3) (fun _ _ h => h) htj1 hg03
    dsimp only
    generalize hsb : sameB t u (ms.take k) = sb
    (conv => whnf)
    refine IteP.mk (fun hlk => W.mk ?_) (fun hge => W.mk ?_)
    · have hlk : k < ms.length := by omega
      have hcm := hM3.el hlk
      have hsu := same_succ (t := t) (u := u) hlk
      rw [hsb] at hsu
      have hmk := hms _ (List.getElem_mem hlk)
      generalize ms[k] = m at hcm hsu hmk
      cases sb
      · (conv => whnf)
        repeat' (first | (refine OblP.mk ?_ (W.mk ?_); (first | trivial | omega | (simp only [inR]; omega) | exact Nat.le_of_ble_eq_true (by rfl) | exact SlR.some (by assumption) (by omega)); (conv => whnf)) | (first | (refine RdP.at (by assumption) (by rfl) (W.mk ?_); (conv => whnf)) | (refine RdP.sub (by assumption) (by rfl) (W.mk ?_); (conv => whnf)) | (refine RdP.sub2 (by assumption) (by rfl) (W.mk ?_); (conv => whnf)) | (refine RdP.sub3 (by assumption) (by rfl) (W.mk ?_); (conv => whnf))))
        refine RoundP.of (k + 1) (HeadP.of [] ⟨rfl, rfl, rfl, rfl, rfl, ?_, rfl, trivial⟩ ⟨rfl, trivial⟩) (by show k + 1 ≤ n; omega) (by simp only; omega)
        rw [hsu]; rfl
      · have hm1 : m.toNat < t.length := by omega
        have hm2 : m.toNat < u.length := by omega
        rw [gd0 hm1, gd0 hm2] at hsu
        have hct := hti3.el hm1
        have hcu := htj3.el hm2
        generalize t[m.toNat] = p at hct hsu
        generalize u[m.toNat] = q at hcu hsu
        (conv => whnf)
        repeat' (first | (refine OblP.mk ?_ (W.mk ?_); (first | trivial | omega | (simp only [inR]; omega) | exact Nat.le_of_ble_eq_true (by rfl) | exact SlR.some (by assumption) (by omega)); (conv => whnf)) | (first | (refine RdP.at (by assumption) (by rfl) (W.mk ?_); (conv => whnf)) | (refine RdP.sub (by assumption) (by rfl) (W.mk ?_); (conv => whnf)) | (refine RdP.sub2 (by assumption) (by rfl) (W.mk ?_); (conv => whnf)) | (refine RdP.sub3 (by assumption) (by rfl) (W.mk ?_); (conv => whnf))))
        refine IteP.mk (fun h => W.mk ?_) (fun h => W.mk ?_) <;> (conv => whnf)
        · repeat' (first | (refine OblP.mk ?_ (W.mk ?_); (first | trivial | omega | (simp only [inR]; omega) | exact Nat.le_of_ble_eq_true (by rfl) | exact SlR.some (by assumption) (by omega)); (conv => whnf)) | (first | (refine RdP.at (by assumption) (by rfl) (W.mk ?_); (conv => whnf)) | (refine RdP.sub (by assumption) (by rfl) (W.mk ?_); (conv => whnf)) | (refine RdP.sub2 (by assumption) (by rfl) (W.mk ?_); (conv => whnf)) | (refine RdP.sub3 (by assumption) (by rfl) (W.mk ?_); (conv => whnf))))
          refine RoundP.of (k + 1) (HeadP.of [] ⟨rfl, rfl, rfl, rfl, rfl, ?_, rfl, trivial⟩ ⟨rfl, trivial⟩) (by show k + 1 ≤ n; omega) (by simp only; omega)
          rw [hsu, decide_eq_true h]; rfl
        · repeat' (first | (refine OblP.mk ?_ (W.mk ?_); (first | trivial | omega | (simp only [inR]; omega) | exact Nat.le_of_ble_eq_true (by rfl) | exact SlR.some (by assumption) (by omega)); (conv => whnf)) | (first | (refine RdP.at (by assumption) (by rfl) (W.mk ?_); (conv => whnf)) | (refine RdP.sub (by assumption) (by rfl) (W.mk ?_); (conv => whnf)) | (refine RdP.sub2 (by assumption) (by rfl) (W.mk ?_); (conv => whnf)) | (refine RdP.sub3 (by assumption) (by rfl) (W.mk ?_); (conv => whnf))))
          refine RoundP.of (k + 1) (HeadP.of [] ⟨rfl, rfl, rfl, rfl, rfl, ?_, rfl, trivial⟩ ⟨rfl, trivial⟩) (by show k + 1 ≤ n; omega) (by simp only; omega)
          rw [hsu, decide_eq_false h]; rfl
    · have : k = ms.length := by omega
      subst this
      rw [List.take_length] at hsb
      cases sb
      · (conv => whnf)
        repeat' (first | (refine OblP.mk ?_ (W.mk ?_); (first | trivial | omega | (simp only [inR]; omega) | exact Nat.le_of_ble_eq_true (by rfl) | exact SlR.some (by assumption) (by omega)); (conv => whnf)) | (first | (refine RdP.at (by assumption) (by rfl) (W.mk ?_); (conv => whnf)) | (refine RdP.sub (by assumption) (by rfl) (W.mk ?_); (conv => whnf)) | (refine RdP.sub2 (by assumption) (by rfl) (W.mk ?_); (conv => whnf)) | (refine RdP.sub3 (by assumption) (by rfl) (W.mk ?_); (conv => whnf))))
        refine RoundP.of (j + 1) (HeadP.of [] ⟨rfl, rfl, rfl, rfl, rfl, trivial⟩ ⟨rfl, trivial⟩) ⟨by show j + 1 ≤ i; omega, fun k t' u' h h1 h2 h3 => ?_⟩ (by simp only; omega)
        rcases Nat.lt_succ_iff_lt_or_eq.1 h with h | rfl
        · exact hx2 k t' u' h h1 h2 h3
        · rw [hti] at h1; rw [htj] at h2
          cases h1; cases h2
          rw [hsb] at h3; cases h3
      · have hdv3 := dvRd.grow hg03 hdv
        have o1 := ofF_le t hr
        have o2 := ofF_le u hr
        have hbad := fun (h : outF d (ofF d t) ≠ outF d (ofF d u)) => decRF_not hlj0 hti htj hsb h
        have hgood := fun (h : outF d (ofF d t) = outF d (ofF d u)) => (show noBad d ts ms i (j + 1) from fun k t' u' h0 h1 h2 h3 => by
          rcases Nat.lt_succ_iff_lt_or_eq.1 h0 with h0 | rfl
          · exact hx2 k t' u' h0 h1 h2 h3
          · rw [hti] at h1; rw [htj] at h2
            cases h1; cases h2
            exact h)
        (conv => whnf)
        repeat' (first | (refine OblP.mk ?_ (W.mk ?_); (first | trivial | omega | (simp only [inR]; omega) | exact Nat.le_of_ble_eq_true (by rfl) | exact SlR.some (by assumption) (by omega)); (conv => whnf)) | (first | (refine RdP.at (by assumption) (by rfl) (W.mk ?_); (conv => whnf)) | (refine RdP.sub (by assumption) (by rfl) (W.mk ?_); (conv => whnf)) | (refine RdP.sub2 (by assumption) (by rfl) (W.mk ?_); (conv => whnf)) | (refine RdP.sub3 (by assumption) (by rfl) (W.mk ?_); (conv => whnf))))
        refine ScaP.g (ok2 dvRd (slRd u8E) fun d t => Tr d t) (x := (d, t)) ⟨_, _, rfl, hdv3, ⟨_, _, _, rfl, hti3, hti2⟩, tr_of hr hfw hfi⟩ (fun v hv => W.mk ?_)
        dsimp only at hv
        subst hv
        (conv => whnf)
        refine ScaP.g (ok2 dvRd nmRd fun _ x => 0 ≤ x.a ∧ x.a ≤ 1000 ∧ 0 ≤ x.n ∧ x.n ≤ 1000) (x := (d, ofF d t)) ⟨_, _, rfl, hdv3, rfl, o1⟩ (fun v hv => W.mk ?_)
        dsimp only at hv
        subst hv
        (conv => whnf)
        repeat' (first | (refine OblP.mk ?_ (W.mk ?_); (first | trivial | omega | (simp only [inR]; omega) | exact Nat.le_of_ble_eq_true (by rfl) | exact SlR.some (by assumption) (by omega)); (conv => whnf)) | (first | (refine RdP.at (by assumption) (by rfl) (W.mk ?_); (conv => whnf)) | (refine RdP.sub (by assumption) (by rfl) (W.mk ?_); (conv => whnf)) | (refine RdP.sub2 (by assumption) (by rfl) (W.mk ?_); (conv => whnf)) | (refine RdP.sub3 (by assumption) (by rfl) (W.mk ?_); (conv => whnf))))
        refine ScaP.g (ok2 dvRd (slRd u8E) fun d t => Tr d t) (x := (d, u)) ⟨_, _, rfl, hdv3, ⟨_, _, _, rfl, htj3, htj2⟩, tr_of hr hfw hfj⟩ (fun v hv => W.mk ?_)
        dsimp only at hv
        subst hv
        (conv => whnf)
        refine ScaP.g (ok2 dvRd nmRd fun _ x => 0 ≤ x.a ∧ x.a ≤ 1000 ∧ 0 ≤ x.n ∧ x.n ≤ 1000) (x := (d, ofF d u)) ⟨_, _, rfl, hdv3, rfl, o2⟩ (fun v hv => W.mk ?_)
        dsimp only at hv
        subst hv
        generalize outF d (ofF d t) = a1 at hbad hgood ⊢
        generalize outF d (ofF d u) = a2 at hbad hgood ⊢
        (conv => whnf)
        refine IteP.mk (fun h => W.mk ?_) (fun h => W.mk ?_) <;> (conv => whnf)
        · repeat' (first | (refine OblP.mk ?_ (W.mk ?_); (first | trivial | omega | (simp only [inR]; omega) | exact Nat.le_of_ble_eq_true (by rfl) | exact SlR.some (by assumption) (by omega)); (conv => whnf)) | (first | (refine RdP.at (by assumption) (by rfl) (W.mk ?_); (conv => whnf)) | (refine RdP.sub (by assumption) (by rfl) (W.mk ?_); (conv => whnf)) | (refine RdP.sub2 (by assumption) (by rfl) (W.mk ?_); (conv => whnf)) | (refine RdP.sub3 (by assumption) (by rfl) (W.mk ?_); (conv => whnf))))
          exact RoundP.of (j + 1) (HeadP.of [] ⟨rfl, rfl, rfl, rfl, rfl, trivial⟩ ⟨rfl, trivial⟩) ⟨by show j + 1 ≤ i; omega, hgood h⟩ (by simp only; omega)
        · refine FinP.mk ?_
          refine congrArg Value.bool ?_
          exact (hbad h).symm
end Go.Proofs.YtgpfejgohclheaaGreat

namespace Go.Proofs.YtgpfejgohclheaaGreat
open Go.Pal
set_option maxRecDepth 100000
theorem shl_one {n : Nat} (h : n ≤ 4) : ∀ w, ((POp.bin .shl 3).sem [I 1, U64 (n : Nat)]).run Tryz.prog w = .ok (I ((2 ^ n : Nat) : Int)) w := fun w => by
  rcases (by omega : n = 0 ∨ n = 1 ∨ n = 2 ∨ n = 3 ∨ n = 4) with rfl | rfl | rfl | rfl | rfl <;> rfl
theorem shr_by {s i : Nat} (h : i ≤ 4) : ∀ w, ((POp.bin .shr 3).sem [I (s : Nat), U64 (i : Nat)]).run Tryz.prog w = .ok (I ((s / 2 ^ i : Nat) : Int)) w := fun w => by
  have e : (POp.bin .shr 3).sem [I (s : Nat), U64 (i : Nat)] = (do eqGuard .shr 3 (.tmp 0) (.tmp 0) (I (s : Nat)) (U64 (i : Nat)); Op.shift .shr .i64 s .u64 i) := rfl
  rw [e, shift_shr .i64 .u64 (s : Nat) (i : Nat) (by omega) (by show ((i : Nat) : Int) ≤ 64; omega)]
  have e2 : ((s : Nat) : Int) / 2 ^ ((i : Nat) : Int).toNat = ((s / 2 ^ i : Nat) : Int) := by simp
  rw [e2]; rfl
theorem shr_bit (s i : Nat) : ((s / 2 ^ i % 2 : Nat) : Int) = if s.testBit i then 1 else 0 := by
  rw [Nat.testBit_eq_decide_div_mod_eq]
  have := Nat.mod_two_eq_zero_or_one (s / 2 ^ i)
  rcases this with h | h <;> rw [h] <;> rfl
noncomputable abbrev decP7 (d : Dv) : List Int → Bool := decF (tolF d)
theorem sub_in {d : Dv} {l : List Int} (h : l.Sublist (doubtsF d)) : ∀ m ∈ l, 0 ≤ m ∧ m < d.m := fun m hm => by
  obtain ⟨k, rfl, hk, _⟩ := doubts_in.1 (h.subset hm)
  omega
theorem refT_len {d : Dv} (ho : openF d = 0) : (refT d).length ≤ 6561 := trR_len ho (by simp)
def askG (d : Dv) : Prop := openF d = 0 ∧ fewF d = true ∧ (doubtsF d).length ≤ 4
theorem refT_ghost {d : Dv} (h : askG d) {l : List Int} (hs : l.Sublist (doubtsF d)) : rrGhost d (refT d) l :=
  have hr := fault_right (open_fault h.1).1
  ⟨hr, h.2.1, fun _ ht => refT_fit hr ht, sub_in hs, refT_len h.1⟩
def tabRA : Tab Tryz.prog := Tab.cons 39 _ doubts16 body39 (Tab.cons 19 _ truths18 body19 (Tab.cons 55 _ less55 body55 (Tab.cons 18 _ decide18 body18 (Tab.nil _))))
set_option maxHeartbeats 1000000
theorem refAsk21 : Sound Tryz.prog 21 id (grel (args1 dvRd askG) fun d v G => SlV intE G v (askF d)) := by
  refine comp21.grel tabRA (ok1 _ _) (fun args G s h => ?_) (fun x v G G' hg h => h.grow hg) (fun args G d h => ?_)
  · obtain ⟨v, rfl, _⟩ := h; simp
  · obtain ⟨u, rfl, ⟨w0, w1, w2, w3, w4, w5, rfl, hd⟩, hG⟩ := h
    have hG0 := hG
    obtain ⟨ho, hfw, h4⟩ := hG
    have hr := fault_right (open_fault ho).1
    obtain ⟨hm0, hm1⟩ := right_m hr
    have hdv : DvV G _ d := ⟨_, _, _, _, _, _, rfl, hd⟩
    obtain ⟨x0, y0, z0, rfl, la0, ya0⟩ := id hd.a0
    obtain ⟨x1, y1, z1, rfl, la1, ya1⟩ := id hd.a1
    obtain ⟨x2, y2, z2, rfl, ln0, yn0⟩ := id hd.n0
    obtain ⟨x3, y3, z3, rfl, ln1, yn1⟩ := id hd.n1
    obtain ⟨x4, y4, z4, rfl, lps, yps⟩ := id hd.ps
    obtain ⟨x5, y5, z5, rfl, lqs, yqs⟩ := id hd.qs
    (conv => whnf)
    refine RelP.g (ok1 dvRd fun d => 0 ≤ d.m ∧ d.m ≤ 40) (x := d) ⟨_, rfl, hdv, by omega, by omega⟩ (Grow.refl _) (fun v G1 hg1 hq => W.mk ?_)
    obtain ⟨ad, nd, cd, rfl, hD, hDn⟩ := hq
    have hDl := hD.len
    (conv => whnf)
    refine RelP.g (ok2 dvRd (slRd u8E) fun d b => openF d = 0 ∧ b = []) (x := (d, [])) ⟨_, _, rfl, dvRd.grow hg1 hdv, SlV.nil, ho, rfl⟩ (Grow.refl _) (fun v G2 hg2 hq => W.mk ?_)
    obtain ⟨hs, ⟨at_, nt, ct, rfl, hH, hHn⟩, hRR⟩ := hq
    have hRR : RRs G2 hs (refT d) := hRR
    have hD2 := SlR.grow (G := G1) (G' := G2) (fun _ _ h => h) hD hg2
    (conv => whnf)
    refine LoopP.of { α := Nat × Bool × Hdr × List Value, fr := fun x => [(1, .c (.ptr 0 0)), (3, .v (.slice ad nd cd)), (4, .v (.slice at_ nt ct)), (5, match x.2.1 with | true => .c (.row 9 x.2.2.1.2.1) | false => .v (hV x.2.2.1)), (6, .v (I x.1))], H := fun x => [(0, .cells .anon (DVC d x0 x1 x2 x3 x4 x5 y0 z0 y1 z1 y2 z2 y3 z3 y4 z4 y5 z5) 27)] ++ (match x.2.1 with | true => [(9, .row (some (hV x.2.2.1)) x.2.2.1.2.1 x.2.2.2 3 1)] | false => []), ok := fun x G => x.1 ≤ 2 ^ nd ∧ SlV intE G (hV x.2.2.1) (bestK (decP7 d) (doubtsF d) x.1), m := fun x => 2 ^ nd - x.1 }
      (0, false, (ad, nd, cd), []) (HeadP.of [] ⟨rfl, rfl, rfl, rfl, rfl, trivial⟩ ⟨rfl, trivial⟩) ⟨Nat.zero_le _, _, _, _, rfl, hD2, hDn⟩ (fun x => by obtain ⟨_, _ | _, _⟩ := x <;> exact ⟨rfl, rfl⟩) (fun x G3 hg3 hx => W.mk ?_)
    obtain ⟨s, fl, ⟨ba, bn, bc⟩, ws⟩ := x
    obtain ⟨hs2, hbest⟩ := hx
    dsimp only at hs2 hbest
    have hbest : SlV intE G3 (.slice ba bn bc) (bestK (decP7 d) (doubtsF d) s) := hbest
    have hD3 := SlR.grow (G := G2) (G' := G3) (fun _ _ h => h) hD2 hg3
    have hfin : s = 2 ^ nd → SlV intE G3 (.slice ba bn bc) (askF d) := fun h => by
      subst h
      rw [← hDl, ask_best ho] at hbest
      exact hbest
    cases fl
    · dsimp only
      (conv => whnf)
      repeat' (refine OblP.mk ?_ (W.mk ?_); (first | trivial | omega | (simp only [inR]; omega) | exact Nat.le_of_ble_eq_true (by rfl) | exact SlR.some (by assumption) (by omega)); (conv => whnf))
      refine PurP.of _ (shl_one (n := nd) (by omega)) (W.mk ?_)
      (conv => whnf)
      refine IteP.mk (fun hlt => W.mk ?_) (fun hge => W.mk ?_) <;> (conv => whnf)
      · have hlt : s < 2 ^ nd := by omega
        have hs16 : s < 16 := Nat.lt_of_lt_of_le hlt (Nat.le_trans (Nat.pow_le_pow_right (by decide) (show nd ≤ 4 by omega)) (by decide))
        refine LoopP.of { α := Nat × Nat × List Value, fr := fun x => [(1, .c (.ptr 0 0)), (3, .v (.slice ad nd cd)), (4, .v (.slice at_ nt ct)), (5, (.v (.slice ba bn bc))), (6, .v (I s)), (7, .c (.row 17 x.2.1)), (8, .v (I x.1))], H := fun x => [(0, .cells .anon (DVC d x0 x1 x2 x3 x4 x5 y0 z0 y1 z1 y2 z2 y3 z3 y4 z4 y5 z5) 27), (17, .row none x.2.1 x.2.2 3 1)] ++ [], ok := fun x _ => x.1 ≤ nd ∧ Row intE (subK (doubtsF d) s x.1) x.2.1 x.2.2, m := fun x => nd - x.1 }
          (0, 0, []) (HeadP.of [(17, none)] ⟨rfl, rfl, rfl, rfl, rfl, rfl, rfl, trivial⟩ ⟨rfl, rfl, trivial⟩) ⟨Nat.zero_le _, Row.nil⟩ (fun _ => ⟨rfl, rfl⟩) (fun x G4 hg4 hx => W.mk ?_)
        obtain ⟨i, n, vs⟩ := x
        obtain ⟨hi, hrow⟩ := hx
        dsimp only at hi hrow
        have hD4 := SlR.grow (G := G3) (G' := G4) (fun _ _ h => h) hD3 hg4
        have hrn := hrow.n
        have hsl := subK_len (doubtsF d) s i
        dsimp only
        (conv => whnf)
        refine IteP.mk (fun hlt2 => W.mk ?_) (fun hge => W.mk ?_) <;> (conv => whnf)
        · have hlt2 : i < (doubtsF d).length := by omega
          have hc := hD4.el hlt2
          have hsu := subK_succ (doubtsF d) s i
          have hbit := shr_bit s i
          rw [gd0 hlt2] at hsu
          generalize (doubtsF d)[i] = e at hc hsu
          repeat' (refine OblP.mk ?_ (W.mk ?_); (first | trivial | omega | (simp only [inR]; omega) | exact Nat.le_of_ble_eq_true (by rfl) | exact SlR.some (by assumption) (by omega)); (conv => whnf))
          refine PurP.of _ (shr_by (s := s) (i := i) (by omega)) (W.mk ?_)
          (conv => whnf)
          refine OblP.mk ⟨by decide, Int.natCast_nonneg _⟩ (W.mk ?_)
          (conv => whnf)
          refine IteP.mk (fun hq => W.mk ?_) (fun hq => W.mk ?_) <;> (conv => whnf)
          · have hq : ((s / 2 ^ i : Nat) : Int) % 2 = 1 := hq
            have htb : s.testBit i = true := by
              cases h : s.testBit i with
              | true => rfl
              | false =>
                rw [h] at hbit
                simp only [Bool.false_eq_true, if_false] at hbit
                omega
            rw [if_pos htb] at hsu
            repeat' (first | (refine OblP.mk rfl (W.mk ?_); (conv => whnf)) | (refine OblP.mk ?_ (W.mk ?_); (first | trivial | omega | (simp only [inR]; omega) | exact Nat.le_of_ble_eq_true (by rfl) | exact SlR.some (by assumption) (by omega)); (conv => whnf)) | (first | (refine RdP.at (by assumption) (by rfl) (W.mk ?_); (conv => whnf)) | (refine RdP.sub (by assumption) (by rfl) (W.mk ?_); (conv => whnf)) | (refine RdP.sub2 (by assumption) (by rfl) (W.mk ?_); (conv => whnf)) | (refine RdP.sub3 (by assumption) (by rfl) (W.mk ?_); (conv => whnf))))
            refine RoundP.of (i + 1, n + 1, vs ++ [I e]) (HeadP.of [(17, some 35)] ⟨rfl, rfl, rfl, rfl, rfl, rfl, rfl, trivial⟩ ⟨rfl, rfl, trivial⟩) ⟨by show i + 1 ≤ nd; omega, ?_⟩ (by simp only; omega)
            rw [hsu]
            exact hrow.snoc e
          · have hq : ¬ ((s / 2 ^ i : Nat) : Int) % 2 = 1 := hq
            have htb : s.testBit i = false := by
              cases h : s.testBit i with
              | false => rfl
              | true =>
                rw [h] at hbit
                simp only [if_true] at hbit
                omega
            rw [if_neg (by rw [htb]; simp)] at hsu
            repeat' (first | (refine OblP.mk rfl (W.mk ?_); (conv => whnf)) | (refine OblP.mk ?_ (W.mk ?_); (first | trivial | omega | (simp only [inR]; omega) | exact Nat.le_of_ble_eq_true (by rfl) | exact SlR.some (by assumption) (by omega)); (conv => whnf)) | (first | (refine RdP.at (by assumption) (by rfl) (W.mk ?_); (conv => whnf)) | (refine RdP.sub (by assumption) (by rfl) (W.mk ?_); (conv => whnf)) | (refine RdP.sub2 (by assumption) (by rfl) (W.mk ?_); (conv => whnf)) | (refine RdP.sub3 (by assumption) (by rfl) (W.mk ?_); (conv => whnf))))
            refine RoundP.of (i + 1, n, vs) (HeadP.of [] ⟨rfl, rfl, rfl, rfl, rfl, rfl, rfl, trivial⟩ ⟨rfl, rfl, trivial⟩) ⟨by show i + 1 ≤ nd; omega, ?_⟩ (by simp only; omega)
            rw [hsu]
            exact hrow
        · have : i = (doubtsF d).length := by omega
          subst this
          have hrow : Row intE (subF (doubtsF d) s) n vs := hrow
          have hss := subF_sub (doubtsF d) s
          have hgh := refT_ghost hG0 hss
          have hdc := decR_dec ho (sub_in hss)
          have hbk : bestK (decP7 d) (doubtsF d) (s + 1) = if (decide ((subF (doubtsF d) s).length < (bestK (decP7 d) (doubtsF d) s).length) || (decide ((subF (doubtsF d) s).length = (bestK (decP7 d) (doubtsF d) s).length) && lessF (subF (doubtsF d) s) (bestK (decP7 d) (doubtsF d) s))) && decP7 d (subF (doubtsF d) s) then subF (doubtsF d) s else bestK (decP7 d) (doubtsF d) s := rfl
          have hb5 := hbest.grow hg4
          have hsn := hrow.n
          have hbest4 := hb5
          obtain ⟨_, _, _, e, hB, hBn⟩ := hbest4
          cases e
          have hBl := hB.len
          clear hbest
          generalize bestK (decP7 d) (doubtsF d) s = best at *
          generalize subF (doubtsF d) s = L at *
          have hdv4 := dvRd.grow ((hg1.trans hg2).trans (hg3.trans hg4)) hdv
          have hrr4 : rrRd.R G4 (.slice at_ nt ct) (refT d) := rrRd.grow (hg3.trans hg4) ⟨hs, ⟨_, _, _, rfl, hH, hHn⟩, hRR⟩
          refine IteP.mk (fun hc => W.mk ?_) (fun hc => W.mk ?_) <;> (conv => whnf)
          · repeat' (first | (refine OblP.mk rfl (W.mk ?_); (conv => whnf)) | (refine OblP.mk ?_ (W.mk ?_); (first | trivial | omega | (simp only [inR]; omega) | exact Nat.le_of_ble_eq_true (by rfl) | exact SlR.some (by assumption) (by omega)); (conv => whnf)) | (first | (refine RdP.at (by assumption) (by rfl) (W.mk ?_); (conv => whnf)) | (refine RdP.sub (by assumption) (by rfl) (W.mk ?_); (conv => whnf)) | (refine RdP.sub2 (by assumption) (by rfl) (W.mk ?_); (conv => whnf)) | (refine RdP.sub3 (by assumption) (by rfl) (W.mk ?_); (conv => whnf))))
            have hcl : L.length < best.length := by omega
            refine PubP.mk (fun a5 c5 G5 hg5 hp => W.mk ?_)
            have hL := hrow.pub hp (by omega)
            (conv => whnf)
            refine ScaP.g (ok3 dvRd rrRd (slRd intE) rrGhost) (x := (d, refT d, L)) ⟨_, _, _, rfl, dvRd.grow hg5 hdv4, rrRd.grow hg5 hrr4, hL, hgh⟩ (fun v hv => W.mk ?_)
            have hv := hv.trans (congrArg Value.bool hdc)
            subst hv
            (conv => whnf)
            refine ForkP.mk (fun hd1 => W.mk ?_) (fun hd1 => W.mk ?_) <;> (conv => whnf)
            · have hd1 : decP7 d L = true := hd1
              repeat' (first | (refine OblP.mk ?_ (W.mk ?_); (first | trivial | omega | (simp only [inR]; omega) | exact Nat.le_of_ble_eq_true (by rfl) | exact SlR.some (by assumption) (by omega)); (conv => whnf)) | (first | (refine RdP.at (by assumption) (by rfl) (W.mk ?_); (conv => whnf)) | (refine RdP.sub (by assumption) (by rfl) (W.mk ?_); (conv => whnf)) | (refine RdP.sub2 (by assumption) (by rfl) (W.mk ?_); (conv => whnf)) | (refine RdP.sub3 (by assumption) (by rfl) (W.mk ?_); (conv => whnf))))
              refine RoundP.of (s + 1, true, (a5, n, c5), vs) (HeadP.of [(9, some 17)] ⟨rfl, rfl, rfl, rfl, rfl, trivial⟩ ⟨rfl, rfl, trivial⟩) ⟨by show s + 1 ≤ 2 ^ nd; omega, ?_⟩ (by simp only; omega)
              have : bestK (decP7 d) (doubtsF d) (s + 1) = L := by rw [hbk, if_pos]; (rw [decide_eq_true hcl, hd1]; rfl)
              rw [this]
              exact hL
            · have hd1 : decP7 d L = false := hd1
              repeat' (first | (refine OblP.mk ?_ (W.mk ?_); (first | trivial | omega | (simp only [inR]; omega) | exact Nat.le_of_ble_eq_true (by rfl) | exact SlR.some (by assumption) (by omega)); (conv => whnf)) | (first | (refine RdP.at (by assumption) (by rfl) (W.mk ?_); (conv => whnf)) | (refine RdP.sub (by assumption) (by rfl) (W.mk ?_); (conv => whnf)) | (refine RdP.sub2 (by assumption) (by rfl) (W.mk ?_); (conv => whnf)) | (refine RdP.sub3 (by assumption) (by rfl) (W.mk ?_); (conv => whnf))))
              refine RoundP.of (s + 1, false, (ba, bn, bc), ws) (HeadP.of [] ⟨rfl, rfl, rfl, rfl, rfl, trivial⟩ ⟨rfl, trivial⟩) ⟨by show s + 1 ≤ 2 ^ nd; omega, ?_⟩ (by simp only; omega)
              show SlV intE _ (.slice ba bn bc) (bestK (decP7 d) (doubtsF d) (s + 1))
              have : bestK (decP7 d) (doubtsF d) (s + 1) = best := ?_
              · rw [this]; exact hb5.grow hg5
              rw [hbk, if_neg (by rw [hd1]; simp)]
          · have hcl : ¬ L.length < best.length := by omega
            refine IteP.mk (fun hc2 => W.mk ?_) (fun hc2 => W.mk ?_) <;> (conv => whnf)
            · have hcl2 : L.length = best.length := by omega
              repeat' (first | (refine OblP.mk rfl (W.mk ?_); (conv => whnf)) | (refine OblP.mk ?_ (W.mk ?_); (first | trivial | omega | (simp only [inR]; omega) | exact Nat.le_of_ble_eq_true (by rfl) | exact SlR.some (by assumption) (by omega)); (conv => whnf)) | (first | (refine RdP.at (by assumption) (by rfl) (W.mk ?_); (conv => whnf)) | (refine RdP.sub (by assumption) (by rfl) (W.mk ?_); (conv => whnf)) | (refine RdP.sub2 (by assumption) (by rfl) (W.mk ?_); (conv => whnf)) | (refine RdP.sub3 (by assumption) (by rfl) (W.mk ?_); (conv => whnf))))
              refine PubP.mk (fun a5 c5 G5 hg5 hp => W.mk ?_)
              have hL := hrow.pub hp (by omega)
              (conv => whnf)
              refine ScaP.g (ok2 (slRd intE) (slRd intE) fun a b => a.length = b.length) (x := (L, best)) ⟨_, _, rfl, hL, hb5.grow hg5, by show L.length = best.length; omega⟩ (fun v hv => W.mk ?_)
              subst hv
              dsimp only
              (conv => whnf)
              refine ForkP.mk (fun hl => W.mk ?_) (fun hl => W.mk ?_) <;> (conv => whnf)
              · repeat' (first | (refine OblP.mk rfl (W.mk ?_); (conv => whnf)) | (refine OblP.mk ?_ (W.mk ?_); (first | trivial | omega | (simp only [inR]; omega) | exact Nat.le_of_ble_eq_true (by rfl) | exact SlR.some (by assumption) (by omega)); (conv => whnf)) | (first | (refine RdP.at (by assumption) (by rfl) (W.mk ?_); (conv => whnf)) | (refine RdP.sub (by assumption) (by rfl) (W.mk ?_); (conv => whnf)) | (refine RdP.sub2 (by assumption) (by rfl) (W.mk ?_); (conv => whnf)) | (refine RdP.sub3 (by assumption) (by rfl) (W.mk ?_); (conv => whnf))))
                refine ScaP.g (ok3 dvRd rrRd (slRd intE) rrGhost) (x := (d, refT d, L)) ⟨_, _, _, rfl, dvRd.grow hg5 hdv4, rrRd.grow hg5 hrr4, hL, hgh⟩ (fun v hv => W.mk ?_)
                have hv := hv.trans (congrArg Value.bool hdc)
                subst hv
                (conv => whnf)
                refine ForkP.mk (fun hd1 => W.mk ?_) (fun hd1 => W.mk ?_) <;> (conv => whnf)
                · have hd1 : decP7 d L = true := hd1
                  repeat' (first | (refine OblP.mk ?_ (W.mk ?_); (first | trivial | omega | (simp only [inR]; omega) | exact Nat.le_of_ble_eq_true (by rfl) | exact SlR.some (by assumption) (by omega)); (conv => whnf)) | (first | (refine RdP.at (by assumption) (by rfl) (W.mk ?_); (conv => whnf)) | (refine RdP.sub (by assumption) (by rfl) (W.mk ?_); (conv => whnf)) | (refine RdP.sub2 (by assumption) (by rfl) (W.mk ?_); (conv => whnf)) | (refine RdP.sub3 (by assumption) (by rfl) (W.mk ?_); (conv => whnf))))
                  refine RoundP.of (s + 1, true, (a5, n, c5), vs) (HeadP.of [(9, some 17)] ⟨rfl, rfl, rfl, rfl, rfl, trivial⟩ ⟨rfl, rfl, trivial⟩) ⟨by show s + 1 ≤ 2 ^ nd; omega, ?_⟩ (by simp only; omega)
                  have : bestK (decP7 d) (doubtsF d) (s + 1) = L := by rw [hbk, if_pos]; (rw [decide_eq_true hcl2, hl, hd1]; simp)
                  rw [this]
                  exact hL
                · have hd1 : decP7 d L = false := hd1
                  repeat' (first | (refine OblP.mk ?_ (W.mk ?_); (first | trivial | omega | (simp only [inR]; omega) | exact Nat.le_of_ble_eq_true (by rfl) | exact SlR.some (by assumption) (by omega)); (conv => whnf)) | (first | (refine RdP.at (by assumption) (by rfl) (W.mk ?_); (conv => whnf)) | (refine RdP.sub (by assumption) (by rfl) (W.mk ?_); (conv => whnf)) | (refine RdP.sub2 (by assumption) (by rfl) (W.mk ?_); (conv => whnf)) | (refine RdP.sub3 (by assumption) (by rfl) (W.mk ?_); (conv => whnf))))
                  refine RoundP.of (s + 1, false, (ba, bn, bc), ws) (HeadP.of [] ⟨rfl, rfl, rfl, rfl, rfl, trivial⟩ ⟨rfl, trivial⟩) ⟨by show s + 1 ≤ 2 ^ nd; omega, ?_⟩ (by simp only; omega)
                  show SlV intE _ (.slice ba bn bc) (bestK (decP7 d) (doubtsF d) (s + 1))
                  have : bestK (decP7 d) (doubtsF d) (s + 1) = best := ?_
                  · rw [this]; exact hb5.grow hg5
                  rw [hbk, if_neg (by rw [hd1]; simp)]
              · repeat' (first | (refine OblP.mk rfl (W.mk ?_); (conv => whnf)) | (refine OblP.mk ?_ (W.mk ?_); (first | trivial | omega | (simp only [inR]; omega) | exact Nat.le_of_ble_eq_true (by rfl) | exact SlR.some (by assumption) (by omega)); (conv => whnf)) | (first | (refine RdP.at (by assumption) (by rfl) (W.mk ?_); (conv => whnf)) | (refine RdP.sub (by assumption) (by rfl) (W.mk ?_); (conv => whnf)) | (refine RdP.sub2 (by assumption) (by rfl) (W.mk ?_); (conv => whnf)) | (refine RdP.sub3 (by assumption) (by rfl) (W.mk ?_); (conv => whnf))))
                refine RoundP.of (s + 1, false, (ba, bn, bc), ws) (HeadP.of [] ⟨rfl, rfl, rfl, rfl, rfl, trivial⟩ ⟨rfl, trivial⟩) ⟨by show s + 1 ≤ 2 ^ nd; omega, ?_⟩ (by simp only; omega)
                show SlV intE _ (.slice ba bn bc) (bestK (decP7 d) (doubtsF d) (s + 1))
                have : bestK (decP7 d) (doubtsF d) (s + 1) = best := ?_
                · rw [this]; exact hb5.grow hg5
                rw [hbk, if_neg (by rw [decide_eq_false hcl, hl]; simp)]
            · have hcl2 : ¬ L.length = best.length := by omega
              repeat' (first | (refine OblP.mk rfl (W.mk ?_); (conv => whnf)) | (refine OblP.mk ?_ (W.mk ?_); (first | trivial | omega | (simp only [inR]; omega) | exact Nat.le_of_ble_eq_true (by rfl) | exact SlR.some (by assumption) (by omega)); (conv => whnf)) | (first | (refine RdP.at (by assumption) (by rfl) (W.mk ?_); (conv => whnf)) | (refine RdP.sub (by assumption) (by rfl) (W.mk ?_); (conv => whnf)) | (refine RdP.sub2 (by assumption) (by rfl) (W.mk ?_); (conv => whnf)) | (refine RdP.sub3 (by assumption) (by rfl) (W.mk ?_); (conv => whnf))))
              refine RoundP.of (s + 1, false, (ba, bn, bc), ws) (HeadP.of [] ⟨rfl, rfl, rfl, rfl, rfl, trivial⟩ ⟨rfl, trivial⟩) ⟨by show s + 1 ≤ 2 ^ nd; omega, ?_⟩ (by simp only; omega)
              show SlV intE _ (.slice ba bn bc) (bestK (decP7 d) (doubtsF d) (s + 1))
              have : bestK (decP7 d) (doubtsF d) (s + 1) = best := ?_
              · rw [this]; exact hb5.grow (Grow.refl _)
              rw [hbk, if_neg (by rw [decide_eq_false hcl, decide_eq_false hcl2]; simp)]
      · exact FinP.mk (hfin (by omega))
    · dsimp only
      (conv => whnf)
      repeat' (refine OblP.mk ?_ (W.mk ?_); (first | trivial | omega | (simp only [inR]; omega) | exact Nat.le_of_ble_eq_true (by rfl) | exact SlR.some (by assumption) (by omega)); (conv => whnf))
      refine PurP.of _ (shl_one (n := nd) (by omega)) (W.mk ?_)
      (conv => whnf)
      refine IteP.mk (fun hlt => W.mk ?_) (fun hge => W.mk ?_) <;> (conv => whnf)
      · have hlt : s < 2 ^ nd := by omega
        have hs16 : s < 16 := Nat.lt_of_lt_of_le hlt (Nat.le_trans (Nat.pow_le_pow_right (by decide) (show nd ≤ 4 by omega)) (by decide))
        refine LoopP.of { α := Nat × Nat × List Value, fr := fun x => [(1, .c (.ptr 0 0)), (3, .v (.slice ad nd cd)), (4, .v (.slice at_ nt ct)), (5, (.c (.row 9 bn))), (6, .v (I s)), (7, .c (.row 17 x.2.1)), (8, .v (I x.1))], H := fun x => [(0, .cells .anon (DVC d x0 x1 x2 x3 x4 x5 y0 z0 y1 z1 y2 z2 y3 z3 y4 z4 y5 z5) 27), (17, .row none x.2.1 x.2.2 3 1)] ++ [(9, .row (some (.slice ba bn bc)) bn ws 3 1)], ok := fun x _ => x.1 ≤ nd ∧ Row intE (subK (doubtsF d) s x.1) x.2.1 x.2.2, m := fun x => nd - x.1 }
          (0, 0, []) (HeadP.of [(17, none)] ⟨rfl, rfl, rfl, rfl, rfl, rfl, rfl, trivial⟩ ⟨rfl, rfl, rfl, trivial⟩) ⟨Nat.zero_le _, Row.nil⟩ (fun _ => ⟨rfl, rfl⟩) (fun x G4 hg4 hx => W.mk ?_)
        obtain ⟨i, n, vs⟩ := x
        obtain ⟨hi, hrow⟩ := hx
        dsimp only at hi hrow
        have hD4 := SlR.grow (G := G3) (G' := G4) (fun _ _ h => h) hD3 hg4
        have hrn := hrow.n
        have hsl := subK_len (doubtsF d) s i
        dsimp only
        (conv => whnf)
        refine IteP.mk (fun hlt2 => W.mk ?_) (fun hge => W.mk ?_) <;> (conv => whnf)
        · have hlt2 : i < (doubtsF d).length := by omega
          have hc := hD4.el hlt2
          have hsu := subK_succ (doubtsF d) s i
          have hbit := shr_bit s i
          rw [gd0 hlt2] at hsu
          generalize (doubtsF d)[i] = e at hc hsu
          repeat' (refine OblP.mk ?_ (W.mk ?_); (first | trivial | omega | (simp only [inR]; omega) | exact Nat.le_of_ble_eq_true (by rfl) | exact SlR.some (by assumption) (by omega)); (conv => whnf))
          refine PurP.of _ (shr_by (s := s) (i := i) (by omega)) (W.mk ?_)
          (conv => whnf)
          refine OblP.mk ⟨by decide, Int.natCast_nonneg _⟩ (W.mk ?_)
          (conv => whnf)
          refine IteP.mk (fun hq => W.mk ?_) (fun hq => W.mk ?_) <;> (conv => whnf)
          · have hq : ((s / 2 ^ i : Nat) : Int) % 2 = 1 := hq
            have htb : s.testBit i = true := by
              cases h : s.testBit i with
              | true => rfl
              | false =>
                rw [h] at hbit
                simp only [Bool.false_eq_true, if_false] at hbit
                omega
            rw [if_pos htb] at hsu
            repeat' (first | (refine OblP.mk rfl (W.mk ?_); (conv => whnf)) | (refine OblP.mk ?_ (W.mk ?_); (first | trivial | omega | (simp only [inR]; omega) | exact Nat.le_of_ble_eq_true (by rfl) | exact SlR.some (by assumption) (by omega)); (conv => whnf)) | (first | (refine RdP.at (by assumption) (by rfl) (W.mk ?_); (conv => whnf)) | (refine RdP.sub (by assumption) (by rfl) (W.mk ?_); (conv => whnf)) | (refine RdP.sub2 (by assumption) (by rfl) (W.mk ?_); (conv => whnf)) | (refine RdP.sub3 (by assumption) (by rfl) (W.mk ?_); (conv => whnf))))
            refine RoundP.of (i + 1, n + 1, vs ++ [I e]) (HeadP.of [(17, some 35)] ⟨rfl, rfl, rfl, rfl, rfl, rfl, rfl, trivial⟩ ⟨rfl, rfl, rfl, trivial⟩) ⟨by show i + 1 ≤ nd; omega, ?_⟩ (by simp only; omega)
            rw [hsu]
            exact hrow.snoc e
          · have hq : ¬ ((s / 2 ^ i : Nat) : Int) % 2 = 1 := hq
            have htb : s.testBit i = false := by
              cases h : s.testBit i with
              | false => rfl
              | true =>
                rw [h] at hbit
                simp only [if_true] at hbit
                omega
            rw [if_neg (by rw [htb]; simp)] at hsu
            repeat' (first | (refine OblP.mk rfl (W.mk ?_); (conv => whnf)) | (refine OblP.mk ?_ (W.mk ?_); (first | trivial | omega | (simp only [inR]; omega) | exact Nat.le_of_ble_eq_true (by rfl) | exact SlR.some (by assumption) (by omega)); (conv => whnf)) | (first | (refine RdP.at (by assumption) (by rfl) (W.mk ?_); (conv => whnf)) | (refine RdP.sub (by assumption) (by rfl) (W.mk ?_); (conv => whnf)) | (refine RdP.sub2 (by assumption) (by rfl) (W.mk ?_); (conv => whnf)) | (refine RdP.sub3 (by assumption) (by rfl) (W.mk ?_); (conv => whnf))))
            refine RoundP.of (i + 1, n, vs) (HeadP.of [] ⟨rfl, rfl, rfl, rfl, rfl, rfl, rfl, trivial⟩ ⟨rfl, rfl, rfl, trivial⟩) ⟨by show i + 1 ≤ nd; omega, ?_⟩ (by simp only; omega)
            rw [hsu]
            exact hrow
        · have : i = (doubtsF d).length := by omega
          subst this
          have hrow : Row intE (subF (doubtsF d) s) n vs := hrow
          have hss := subF_sub (doubtsF d) s
          have hgh := refT_ghost hG0 hss
          have hdc := decR_dec ho (sub_in hss)
          have hbk : bestK (decP7 d) (doubtsF d) (s + 1) = if (decide ((subF (doubtsF d) s).length < (bestK (decP7 d) (doubtsF d) s).length) || (decide ((subF (doubtsF d) s).length = (bestK (decP7 d) (doubtsF d) s).length) && lessF (subF (doubtsF d) s) (bestK (decP7 d) (doubtsF d) s))) && decP7 d (subF (doubtsF d) s) then subF (doubtsF d) s else bestK (decP7 d) (doubtsF d) s := rfl
          have hb5 := hbest.grow hg4
          have hsn := hrow.n
          have hbest4 := hb5
          obtain ⟨_, _, _, e, hB, hBn⟩ := hbest4
          cases e
          have hBl := hB.len
          clear hbest
          generalize bestK (decP7 d) (doubtsF d) s = best at *
          generalize subF (doubtsF d) s = L at *
          have hdv4 := dvRd.grow ((hg1.trans hg2).trans (hg3.trans hg4)) hdv
          have hrr4 : rrRd.R G4 (.slice at_ nt ct) (refT d) := rrRd.grow (hg3.trans hg4) ⟨hs, ⟨_, _, _, rfl, hH, hHn⟩, hRR⟩
          refine IteP.mk (fun hc => W.mk ?_) (fun hc => W.mk ?_) <;> (conv => whnf)
          · repeat' (first | (refine OblP.mk rfl (W.mk ?_); (conv => whnf)) | (refine OblP.mk ?_ (W.mk ?_); (first | trivial | omega | (simp only [inR]; omega) | exact Nat.le_of_ble_eq_true (by rfl) | exact SlR.some (by assumption) (by omega)); (conv => whnf)) | (first | (refine RdP.at (by assumption) (by rfl) (W.mk ?_); (conv => whnf)) | (refine RdP.sub (by assumption) (by rfl) (W.mk ?_); (conv => whnf)) | (refine RdP.sub2 (by assumption) (by rfl) (W.mk ?_); (conv => whnf)) | (refine RdP.sub3 (by assumption) (by rfl) (W.mk ?_); (conv => whnf))))
            have hcl : L.length < best.length := by omega
            refine PubP.mk (fun a5 c5 G5 hg5 hp => W.mk ?_)
            have hL := hrow.pub hp (by omega)
            (conv => whnf)
            refine ScaP.g (ok3 dvRd rrRd (slRd intE) rrGhost) (x := (d, refT d, L)) ⟨_, _, _, rfl, dvRd.grow hg5 hdv4, rrRd.grow hg5 hrr4, hL, hgh⟩ (fun v hv => W.mk ?_)
            have hv := hv.trans (congrArg Value.bool hdc)
            subst hv
            (conv => whnf)
            refine ForkP.mk (fun hd1 => W.mk ?_) (fun hd1 => W.mk ?_) <;> (conv => whnf)
            · have hd1 : decP7 d L = true := hd1
              repeat' (first | (refine OblP.mk ?_ (W.mk ?_); (first | trivial | omega | (simp only [inR]; omega) | exact Nat.le_of_ble_eq_true (by rfl) | exact SlR.some (by assumption) (by omega)); (conv => whnf)) | (first | (refine RdP.at (by assumption) (by rfl) (W.mk ?_); (conv => whnf)) | (refine RdP.sub (by assumption) (by rfl) (W.mk ?_); (conv => whnf)) | (refine RdP.sub2 (by assumption) (by rfl) (W.mk ?_); (conv => whnf)) | (refine RdP.sub3 (by assumption) (by rfl) (W.mk ?_); (conv => whnf))))
              refine RoundP.of (s + 1, true, (a5, n, c5), vs) (HeadP.of [(9, some 17)] ⟨rfl, rfl, rfl, rfl, rfl, trivial⟩ ⟨rfl, rfl, trivial⟩) ⟨by show s + 1 ≤ 2 ^ nd; omega, ?_⟩ (by simp only; omega)
              have : bestK (decP7 d) (doubtsF d) (s + 1) = L := by rw [hbk, if_pos]; (rw [decide_eq_true hcl, hd1]; rfl)
              rw [this]
              exact hL
            · have hd1 : decP7 d L = false := hd1
              repeat' (first | (refine OblP.mk ?_ (W.mk ?_); (first | trivial | omega | (simp only [inR]; omega) | exact Nat.le_of_ble_eq_true (by rfl) | exact SlR.some (by assumption) (by omega)); (conv => whnf)) | (first | (refine RdP.at (by assumption) (by rfl) (W.mk ?_); (conv => whnf)) | (refine RdP.sub (by assumption) (by rfl) (W.mk ?_); (conv => whnf)) | (refine RdP.sub2 (by assumption) (by rfl) (W.mk ?_); (conv => whnf)) | (refine RdP.sub3 (by assumption) (by rfl) (W.mk ?_); (conv => whnf))))
              refine RoundP.of (s + 1, true, (ba, bn, bc), ws) (HeadP.of [] ⟨rfl, rfl, rfl, rfl, rfl, trivial⟩ ⟨rfl, rfl, trivial⟩) ⟨by show s + 1 ≤ 2 ^ nd; omega, ?_⟩ (by simp only; omega)
              show SlV intE _ (.slice ba bn bc) (bestK (decP7 d) (doubtsF d) (s + 1))
              have : bestK (decP7 d) (doubtsF d) (s + 1) = best := ?_
              · rw [this]; exact hb5.grow hg5
              rw [hbk, if_neg (by rw [hd1]; simp)]
          · have hcl : ¬ L.length < best.length := by omega
            refine IteP.mk (fun hc2 => W.mk ?_) (fun hc2 => W.mk ?_) <;> (conv => whnf)
            · have hcl2 : L.length = best.length := by omega
              repeat' (first | (refine OblP.mk rfl (W.mk ?_); (conv => whnf)) | (refine OblP.mk ?_ (W.mk ?_); (first | trivial | omega | (simp only [inR]; omega) | exact Nat.le_of_ble_eq_true (by rfl) | exact SlR.some (by assumption) (by omega)); (conv => whnf)) | (first | (refine RdP.at (by assumption) (by rfl) (W.mk ?_); (conv => whnf)) | (refine RdP.sub (by assumption) (by rfl) (W.mk ?_); (conv => whnf)) | (refine RdP.sub2 (by assumption) (by rfl) (W.mk ?_); (conv => whnf)) | (refine RdP.sub3 (by assumption) (by rfl) (W.mk ?_); (conv => whnf))))
              refine PubP.mk (fun a5 c5 G5 hg5 hp => W.mk ?_)
              have hL := hrow.pub hp (by omega)
              (conv => whnf)
              refine ScaP.g (ok2 (slRd intE) (slRd intE) fun a b => a.length = b.length) (x := (L, best)) ⟨_, _, rfl, hL, hb5.grow hg5, by show L.length = best.length; omega⟩ (fun v hv => W.mk ?_)
              subst hv
              dsimp only
              (conv => whnf)
              refine ForkP.mk (fun hl => W.mk ?_) (fun hl => W.mk ?_) <;> (conv => whnf)
              · repeat' (first | (refine OblP.mk rfl (W.mk ?_); (conv => whnf)) | (refine OblP.mk ?_ (W.mk ?_); (first | trivial | omega | (simp only [inR]; omega) | exact Nat.le_of_ble_eq_true (by rfl) | exact SlR.some (by assumption) (by omega)); (conv => whnf)) | (first | (refine RdP.at (by assumption) (by rfl) (W.mk ?_); (conv => whnf)) | (refine RdP.sub (by assumption) (by rfl) (W.mk ?_); (conv => whnf)) | (refine RdP.sub2 (by assumption) (by rfl) (W.mk ?_); (conv => whnf)) | (refine RdP.sub3 (by assumption) (by rfl) (W.mk ?_); (conv => whnf))))
                refine ScaP.g (ok3 dvRd rrRd (slRd intE) rrGhost) (x := (d, refT d, L)) ⟨_, _, _, rfl, dvRd.grow hg5 hdv4, rrRd.grow hg5 hrr4, hL, hgh⟩ (fun v hv => W.mk ?_)
                have hv := hv.trans (congrArg Value.bool hdc)
                subst hv
                (conv => whnf)
                refine ForkP.mk (fun hd1 => W.mk ?_) (fun hd1 => W.mk ?_) <;> (conv => whnf)
                · have hd1 : decP7 d L = true := hd1
                  repeat' (first | (refine OblP.mk ?_ (W.mk ?_); (first | trivial | omega | (simp only [inR]; omega) | exact Nat.le_of_ble_eq_true (by rfl) | exact SlR.some (by assumption) (by omega)); (conv => whnf)) | (first | (refine RdP.at (by assumption) (by rfl) (W.mk ?_); (conv => whnf)) | (refine RdP.sub (by assumption) (by rfl) (W.mk ?_); (conv => whnf)) | (refine RdP.sub2 (by assumption) (by rfl) (W.mk ?_); (conv => whnf)) | (refine RdP.sub3 (by assumption) (by rfl) (W.mk ?_); (conv => whnf))))
                  refine RoundP.of (s + 1, true, (a5, n, c5), vs) (HeadP.of [(9, some 17)] ⟨rfl, rfl, rfl, rfl, rfl, trivial⟩ ⟨rfl, rfl, trivial⟩) ⟨by show s + 1 ≤ 2 ^ nd; omega, ?_⟩ (by simp only; omega)
                  have : bestK (decP7 d) (doubtsF d) (s + 1) = L := by rw [hbk, if_pos]; (rw [decide_eq_true hcl2, hl, hd1]; simp)
                  rw [this]
                  exact hL
                · have hd1 : decP7 d L = false := hd1
                  repeat' (first | (refine OblP.mk ?_ (W.mk ?_); (first | trivial | omega | (simp only [inR]; omega) | exact Nat.le_of_ble_eq_true (by rfl) | exact SlR.some (by assumption) (by omega)); (conv => whnf)) | (first | (refine RdP.at (by assumption) (by rfl) (W.mk ?_); (conv => whnf)) | (refine RdP.sub (by assumption) (by rfl) (W.mk ?_); (conv => whnf)) | (refine RdP.sub2 (by assumption) (by rfl) (W.mk ?_); (conv => whnf)) | (refine RdP.sub3 (by assumption) (by rfl) (W.mk ?_); (conv => whnf))))
                  refine RoundP.of (s + 1, true, (ba, bn, bc), ws) (HeadP.of [] ⟨rfl, rfl, rfl, rfl, rfl, trivial⟩ ⟨rfl, rfl, trivial⟩) ⟨by show s + 1 ≤ 2 ^ nd; omega, ?_⟩ (by simp only; omega)
                  show SlV intE _ (.slice ba bn bc) (bestK (decP7 d) (doubtsF d) (s + 1))
                  have : bestK (decP7 d) (doubtsF d) (s + 1) = best := ?_
                  · rw [this]; exact hb5.grow hg5
                  rw [hbk, if_neg (by rw [hd1]; simp)]
              · repeat' (first | (refine OblP.mk rfl (W.mk ?_); (conv => whnf)) | (refine OblP.mk ?_ (W.mk ?_); (first | trivial | omega | (simp only [inR]; omega) | exact Nat.le_of_ble_eq_true (by rfl) | exact SlR.some (by assumption) (by omega)); (conv => whnf)) | (first | (refine RdP.at (by assumption) (by rfl) (W.mk ?_); (conv => whnf)) | (refine RdP.sub (by assumption) (by rfl) (W.mk ?_); (conv => whnf)) | (refine RdP.sub2 (by assumption) (by rfl) (W.mk ?_); (conv => whnf)) | (refine RdP.sub3 (by assumption) (by rfl) (W.mk ?_); (conv => whnf))))
                refine RoundP.of (s + 1, true, (ba, bn, bc), ws) (HeadP.of [] ⟨rfl, rfl, rfl, rfl, rfl, trivial⟩ ⟨rfl, rfl, trivial⟩) ⟨by show s + 1 ≤ 2 ^ nd; omega, ?_⟩ (by simp only; omega)
                show SlV intE _ (.slice ba bn bc) (bestK (decP7 d) (doubtsF d) (s + 1))
                have : bestK (decP7 d) (doubtsF d) (s + 1) = best := ?_
                · rw [this]; exact hb5.grow hg5
                rw [hbk, if_neg (by rw [decide_eq_false hcl, hl]; simp)]
            · have hcl2 : ¬ L.length = best.length := by omega
              repeat' (first | (refine OblP.mk rfl (W.mk ?_); (conv => whnf)) | (refine OblP.mk ?_ (W.mk ?_); (first | trivial | omega | (simp only [inR]; omega) | exact Nat.le_of_ble_eq_true (by rfl) | exact SlR.some (by assumption) (by omega)); (conv => whnf)) | (first | (refine RdP.at (by assumption) (by rfl) (W.mk ?_); (conv => whnf)) | (refine RdP.sub (by assumption) (by rfl) (W.mk ?_); (conv => whnf)) | (refine RdP.sub2 (by assumption) (by rfl) (W.mk ?_); (conv => whnf)) | (refine RdP.sub3 (by assumption) (by rfl) (W.mk ?_); (conv => whnf))))
              refine RoundP.of (s + 1, true, (ba, bn, bc), ws) (HeadP.of [] ⟨rfl, rfl, rfl, rfl, rfl, trivial⟩ ⟨rfl, rfl, trivial⟩) ⟨by show s + 1 ≤ 2 ^ nd; omega, ?_⟩ (by simp only; omega)
              show SlV intE _ (.slice ba bn bc) (bestK (decP7 d) (doubtsF d) (s + 1))
              have : bestK (decP7 d) (doubtsF d) (s + 1) = best := ?_
              · rw [this]; exact hb5.grow (Grow.refl _)
              rw [hbk, if_neg (by rw [decide_eq_false hcl, decide_eq_false hcl2]; simp)]
      · exact FinP.mk (hfin (by omega))
end Go.Proofs.YtgpfejgohclheaaGreat

namespace Go.Proofs.YtgpfejgohclheaaGreat
open Go.Pal
set_option maxRecDepth 100000
theorem eqB4 (a b : Bool) : ∀ w, ((POp.bin .eql 4).sem [.bool a, .bool b]).run Tryz.prog w = .ok (.bool (a == b)) w := fun w => by
  cases a <;> cases b <;> rfl
theorem small_few {d : Dv} (h : smallF d = true) : fewF d = true := by
  unfold smallF at h
  split at h
  · rename_i h1; exact h1.1
  · exact h
theorem small_ask {d : Dv} (h : smallF d = true) (ho : openF d = 0) : askG d := by
  obtain ⟨hf, h8⟩ := open_fault ho
  have hfw := small_few h
  refine ⟨ho, hfw, ?_⟩
  rw [smallF, if_pos ⟨hfw, hf⟩, decide_eq_true_eq] at h
  omega
def tabAk : Tab Tryz.prog := Tab.cons 10 _ small9u body10 (Tab.cons 11 _ wakes10 body11 (Tab.cons 13 _ div12 body13 (Tab.cons 12 _ ask24 body12 (Tab.cons 15 _ list22 body15 (Tab.cons 14 _ prove36 body14 (Tab.cons 16 _ open17 body16 (Tab.cons 17 _ doubtful17 body17 (Tab.cons 19 _ truths18 body19 (Tab.cons 18 _ decide18 body18 (Tab.cons 21 _ refAsk21 body21 (Tab.cons 20 _ ints15 body20 (Tab.nil _))))))))))))
set_option maxHeartbeats 1000000
theorem law3z : Sound Tryz.prog 3 id (gsca (args2 duRd (suRd intE) fun d _ => rul d) fun _ v => v = .bool true) := by
  refine comp3.gsca tabAk (fun args G s h => ?_) (fun args G x h => ?_)
  · obtain ⟨v, w, rfl, _⟩ := h; simp
  · obtain ⟨d, ms⟩ := x
    obtain ⟨u, v, rfl, ⟨w0, w1, w2, w3, w4, w5, rfl, hd⟩, ⟨am, nm, cm, rfl, hM⟩, hr⟩ := h
    dsimp only at hd hM hr
    have hdu : DuV G _ d := ⟨_, _, _, _, _, _, rfl, hd⟩
    have hml := hM.len
    obtain ⟨x0, y0, z0, rfl, la0⟩ := id hd.a0
    obtain ⟨x1, y1, z1, rfl, la1⟩ := id hd.a1
    obtain ⟨x2, y2, z2, rfl, ln0⟩ := id hd.n0
    obtain ⟨x3, y3, z3, rfl, ln1⟩ := id hd.n1
    obtain ⟨x4, y4, z4, rfl, lps⟩ := id hd.ps
    obtain ⟨x5, y5, z5, rfl, lqs⟩ := id hd.qs
    dsimp only
    (conv => whnf)
    refine ScaP.g (ok1 duRd fun _ => True) (x := d) ⟨_, rfl, hdu, trivial⟩ (fun v hv => W.mk ?_)
    subst hv
    (conv => whnf)
    refine ForkP.mk (fun hsm => W.mk ?_) (fun hsm => W.mk ?_) <;> (conv => whnf)
    rotate_left
    · refine ScaP.g okU (x := ()) rfl (fun v hv => W.mk ?_)
      subst hv
      (conv => whnf)
      refine ForkP.mk (fun _ => W.mk ?_) (fun h => by cases h)
      (conv => whnf)
      exact FinP.mk rfl
    refine IteP.mk (fun h45 => W.mk ?_) (fun h45 => W.mk ?_) <;> (conv => whnf)
    · refine ScaP.g okU (x := ()) rfl (fun v hv => W.mk ?_)
      subst hv
      (conv => whnf)
      refine ForkP.mk (fun _ => W.mk ?_) (fun h => by cases h)
      (conv => whnf)
      exact FinP.mk rfl
    have hfw := small_few hsm
    have hdv := hdu.v hfw
    have hMv : SlV intE G (.slice am nm cm) ms := ⟨_, _, _, rfl, hM, by omega⟩
    have hg0 := Grow.refl G
    refine RelP.g (ok1 dvRd fun d => fewF d = true) (x := d) ⟨_, rfl, dvRd.grow hg0 hdv, hfw⟩ (Grow.refl _) (fun v G1 h1 hq => W.mk ?_)
    have hg1 := hg0.trans h1
    have hd1 := hq
    obtain ⟨_, _, _, _, _, _, rfl, hq⟩ := hq
    obtain ⟨xx0, yy0, zz0, rfl, _, _⟩ := id hq.a0
    obtain ⟨xx1, yy1, zz1, rfl, _, _⟩ := id hq.a1
    obtain ⟨xx2, yy2, zz2, rfl, _, _⟩ := id hq.n0
    obtain ⟨xx3, yy3, zz3, rfl, _, _⟩ := id hq.n1
    obtain ⟨xx4, yy4, zz4, rfl, _, _⟩ := id hq.ps
    obtain ⟨xx5, yy5, zz5, rfl, _, _⟩ := id hq.qs
    (conv => whnf)
    refine RelP.g (ok1 dvRd rul) (x := d) ⟨_, rfl, hd1, hr⟩ (Grow.refl _) (fun v G2 h2 hq => W.mk ?_)
    have hg2 := hg1.trans h2
    obtain ⟨w, rfl, aq, nq, cq, rfl, hq2, hqn⟩ := hq
    (conv => whnf)
    refine RelP.g (ok1 dvRd fun d => fewF d = true) (x := d) ⟨_, rfl, dvRd.grow hg2 hdv, hfw⟩ (Grow.refl _) (fun v G3 h3 hq => W.mk ?_)
    have hg3 := hg2.trans h3
    have hd3 := hq
    obtain ⟨_, _, _, _, _, _, rfl, hq⟩ := hq
    obtain ⟨xx0, yy0, zz0, rfl, _, _⟩ := id hq.a0
    obtain ⟨xx1, yy1, zz1, rfl, _, _⟩ := id hq.a1
    obtain ⟨xx2, yy2, zz2, rfl, _, _⟩ := id hq.n0
    obtain ⟨xx3, yy3, zz3, rfl, _, _⟩ := id hq.n1
    obtain ⟨xx4, yy4, zz4, rfl, _, _⟩ := id hq.ps
    obtain ⟨xx5, yy5, zz5, rfl, _, _⟩ := id hq.qs
    (conv => whnf)
    refine RelP.g (ok1 (slRd intE) fun l => l.length ≤ 8796093022207) (x := ms) ⟨_, rfl, hMv.grow hg3, by show ms.length ≤ _; omega⟩ (Grow.refl _) (fun v G4 h4 hq => W.mk ?_)
    have hg4 := hg3.trans h4
    have hq4 := hq
    obtain ⟨a4, n4, c4, rfl, _, _⟩ := hq
    (conv => whnf)
    refine ScaP.g (ok2 dvRd (slRd intE) fun d _ => rul d) (x := (d, ms)) ⟨_, _, rfl, dvRd.grow h4 hd3, hq4, hr⟩ (fun v hv => W.mk ?_)
    dsimp only at hv
    by_cases ho : openF d = 0
    · rw [if_pos ho] at hq2
      rw [ho]
      have hG := small_ask hsm ho
      have hpe : proveF d ms = (risF ms && amongF d ms && decF (tolF d) ms) := by rw [proveF, decide_eq_true ho, Bool.true_and]
      obtain ⟨hm0, hm1⟩ := right_m (fault_right (open_fault ho).1)
      have hdv4 := dvRd.grow hg4 hdv
      have hMv4 := hMv.grow hg4
      have hqv : SlV intE G4 (.slice aq nq cq) (askF d) := SlV.grow (h3.trans h4) ⟨_, _, _, rfl, hq2, hqn⟩
      generalize hpv : proveF d ms = pv at hv hpe
      subst hv
      (conv => whnf)
      refine ForkP.mk (fun hpt => W.mk ?_) (fun hpt => W.mk ?_) <;> subst hpt <;> (conv => whnf)
      · refine ScaP.g (ok1 dvRd fun _ => True) (x := d) ⟨_, rfl, hdv4, trivial⟩ (fun v hv => W.mk ?_)
        rw [ho] at hv
        subst hv
        (conv => whnf)
        refine IteP.mk (fun _ => W.mk ?_) (fun h => absurd rfl h)
        (conv => whnf)
        refine ScaP.g (ok2 dvRd (slRd intE) fun d _ => 0 ≤ d.m ∧ d.m ≤ 40) (x := (d, ms)) ⟨_, _, rfl, hdv4, hMv4, by show 0 ≤ d.m; omega, hm1⟩ (fun v hv => W.mk ?_)
        subst hv
        dsimp only
        (conv => whnf)
        refine ForkP.mk (fun hda => W.mk ?_) (fun hda => W.mk ?_) <;> (conv => whnf)
        · refine RelP.g (ok2 dvRd (slRd u8E) fun d b => openF d = 0 ∧ b = []) (x := (d, [])) ⟨_, _, rfl, hdv4, SlV.nil, ho, rfl⟩ (Grow.refl _) (fun v G5 h5 hq => W.mk ?_)
          obtain ⟨hs, ⟨at_, nt, ct, rfl, hH, hHn⟩, hRR⟩ := hq
          have hRR : RRs G5 hs (refT d) := hRR
          have hda2 := Bool.and_eq_true_iff.1 hda
          have hmd : ∀ m ∈ ms, 0 ≤ m ∧ m < d.m := fun m hm => by
            have h1 := List.all_eq_true.1 hda2.1 m hm
            obtain ⟨k, rfl, hk, _⟩ := doubts_in.1 (List.contains_iff_mem.1 h1)
            omega
          have hr5 := fault_right (open_fault ho).1
          (conv => whnf)
          refine ScaP.g (ok3 dvRd rrRd (slRd intE) rrGhost) (x := (d, refT d, ms)) ⟨_, _, _, rfl, dvRd.grow h5 hdv4, ⟨hs, ⟨_, _, _, rfl, hH, hHn⟩, hRR⟩, hMv4.grow h5, hr5, hfw, fun _ ht => refT_fit hr5 ht, hmd, refT_len ho⟩ (fun v hv => W.mk ?_)
          have hv := hv.trans (congrArg Value.bool (decR_dec ho hmd))
          subst hv
          (conv => whnf)
          refine ForkP.mk (fun hdd => W.mk ?_) (fun hdd => W.mk ?_) <;> (conv => whnf)
          · (rw [hda2.1, hda2.2, hdd] at hpe)
            refine IteP.mk (fun _ => W.mk ?_) (fun h => absurd rfl h)
            (conv => whnf)
            refine RelP.g (ok1 dvRd askG) (x := d) ⟨_, rfl, (dvRd.grow h5 hdv4), hG⟩ (Grow.refl _) (fun v G6 h6 hq => W.mk ?_)
            have hq6 := hq
            obtain ⟨b1, b2, b3, rfl, hb1, hb2⟩ := hq
            (conv => whnf)
            refine ScaP.g (ok2 (slRd intE) (slRd intE) fun _ _ => True) (x := (askF d, askF d)) ⟨_, _, rfl, SlV.grow h6 (hqv.grow h5), hq6, trivial⟩ (fun v hv => W.mk ?_)
            have hv := hv.trans (congrArg Value.bool (decide_eq_true rfl))
            subst hv
            (conv => whnf)
            refine ForkP.mk (fun _ => W.mk ?_) (fun h => by cases h)
            (conv => whnf)
            refine PurP.of (.bool true) (fun w => by rw [eqB4]; rfl) (W.mk ?_)
            (conv => whnf)
            refine ForkP.mk (fun _ => W.mk ?_) (fun h => by cases h)
            (conv => whnf)
            refine ScaP.g okU (x := ()) rfl (fun v hv => W.mk ?_)
            subst hv
            (conv => whnf)
            refine ForkP.mk (fun _ => W.mk ?_) (fun h => by cases h)
            (conv => whnf)
            exact FinP.mk rfl
          · (rw [hda2.1, hda2.2, hdd] at hpe)
            exfalso
            cases hpe
        · have hpf : (risF ms && amongF d ms && decF (tolF d) ms) = false := by rw [Bool.and_comm (risF ms), hda]; rfl
          (rw [hpf] at hpe)
          exfalso
          cases hpe
      · refine ScaP.g (ok1 dvRd fun _ => True) (x := d) ⟨_, rfl, hdv4, trivial⟩ (fun v hv => W.mk ?_)
        rw [ho] at hv
        subst hv
        (conv => whnf)
        refine IteP.mk (fun _ => W.mk ?_) (fun h => absurd rfl h)
        (conv => whnf)
        refine ScaP.g (ok2 dvRd (slRd intE) fun d _ => 0 ≤ d.m ∧ d.m ≤ 40) (x := (d, ms)) ⟨_, _, rfl, hdv4, hMv4, by show 0 ≤ d.m; omega, hm1⟩ (fun v hv => W.mk ?_)
        subst hv
        dsimp only
        (conv => whnf)
        refine ForkP.mk (fun hda => W.mk ?_) (fun hda => W.mk ?_) <;> (conv => whnf)
        · refine RelP.g (ok2 dvRd (slRd u8E) fun d b => openF d = 0 ∧ b = []) (x := (d, [])) ⟨_, _, rfl, hdv4, SlV.nil, ho, rfl⟩ (Grow.refl _) (fun v G5 h5 hq => W.mk ?_)
          obtain ⟨hs, ⟨at_, nt, ct, rfl, hH, hHn⟩, hRR⟩ := hq
          have hRR : RRs G5 hs (refT d) := hRR
          have hda2 := Bool.and_eq_true_iff.1 hda
          have hmd : ∀ m ∈ ms, 0 ≤ m ∧ m < d.m := fun m hm => by
            have h1 := List.all_eq_true.1 hda2.1 m hm
            obtain ⟨k, rfl, hk, _⟩ := doubts_in.1 (List.contains_iff_mem.1 h1)
            omega
          have hr5 := fault_right (open_fault ho).1
          (conv => whnf)
          refine ScaP.g (ok3 dvRd rrRd (slRd intE) rrGhost) (x := (d, refT d, ms)) ⟨_, _, _, rfl, dvRd.grow h5 hdv4, ⟨hs, ⟨_, _, _, rfl, hH, hHn⟩, hRR⟩, hMv4.grow h5, hr5, hfw, fun _ ht => refT_fit hr5 ht, hmd, refT_len ho⟩ (fun v hv => W.mk ?_)
          have hv := hv.trans (congrArg Value.bool (decR_dec ho hmd))
          subst hv
          (conv => whnf)
          refine ForkP.mk (fun hdd => W.mk ?_) (fun hdd => W.mk ?_) <;> (conv => whnf)
          · (rw [hda2.1, hda2.2, hdd] at hpe)
            exfalso
            cases hpe
          · (rw [hda2.1, hda2.2, hdd] at hpe)
            refine IteP.mk (fun _ => W.mk ?_) (fun h => absurd rfl h)
            (conv => whnf)
            refine RelP.g (ok1 dvRd askG) (x := d) ⟨_, rfl, (dvRd.grow h5 hdv4), hG⟩ (Grow.refl _) (fun v G6 h6 hq => W.mk ?_)
            have hq6 := hq
            obtain ⟨b1, b2, b3, rfl, hb1, hb2⟩ := hq
            (conv => whnf)
            refine ScaP.g (ok2 (slRd intE) (slRd intE) fun _ _ => True) (x := (askF d, askF d)) ⟨_, _, rfl, SlV.grow h6 (hqv.grow h5), hq6, trivial⟩ (fun v hv => W.mk ?_)
            have hv := hv.trans (congrArg Value.bool (decide_eq_true rfl))
            subst hv
            (conv => whnf)
            refine ForkP.mk (fun _ => W.mk ?_) (fun h => by cases h)
            (conv => whnf)
            refine PurP.of (.bool true) (fun w => by rw [eqB4]; rfl) (W.mk ?_)
            (conv => whnf)
            refine ForkP.mk (fun _ => W.mk ?_) (fun h => by cases h)
            (conv => whnf)
            refine ScaP.g okU (x := ()) rfl (fun v hv => W.mk ?_)
            subst hv
            (conv => whnf)
            refine ForkP.mk (fun _ => W.mk ?_) (fun h => by cases h)
            (conv => whnf)
            exact FinP.mk rfl
        · have hpf : (risF ms && amongF d ms && decF (tolF d) ms) = false := by rw [Bool.and_comm (risF ms), hda]; rfl
          (rw [hpf] at hpe)
          refine IteP.mk (fun _ => W.mk ?_) (fun h => absurd rfl h)
          (conv => whnf)
          refine RelP.g (ok1 dvRd askG) (x := d) ⟨_, rfl, hdv4, hG⟩ (Grow.refl _) (fun v G6 h6 hq => W.mk ?_)
          have hq6 := hq
          obtain ⟨b1, b2, b3, rfl, hb1, hb2⟩ := hq
          (conv => whnf)
          refine ScaP.g (ok2 (slRd intE) (slRd intE) fun _ _ => True) (x := (askF d, askF d)) ⟨_, _, rfl, SlV.grow h6 hqv, hq6, trivial⟩ (fun v hv => W.mk ?_)
          have hv := hv.trans (congrArg Value.bool (decide_eq_true rfl))
          subst hv
          (conv => whnf)
          refine ForkP.mk (fun _ => W.mk ?_) (fun h => by cases h)
          (conv => whnf)
          refine PurP.of (.bool true) (fun w => by rw [eqB4]; rfl) (W.mk ?_)
          (conv => whnf)
          refine ForkP.mk (fun _ => W.mk ?_) (fun h => by cases h)
          (conv => whnf)
          refine ScaP.g okU (x := ()) rfl (fun v hv => W.mk ?_)
          subst hv
          (conv => whnf)
          refine ForkP.mk (fun _ => W.mk ?_) (fun h => by cases h)
          (conv => whnf)
          exact FinP.mk rfl
    · rw [if_neg ho] at hq2
      have hpe : proveF d ms = false := by rw [proveF, decide_eq_false ho]; rfl
      rw [hpe] at hv
      subst hv
      have hql := hq2.len
      have hql : 0 = nq := hql
      subst hql
      (conv => whnf)
      refine ForkP.mk (fun h => by cases h) (fun _ => W.mk ?_)
      (conv => whnf)
      refine ScaP.g (ok1 dvRd fun _ => True) (x := d) ⟨_, rfl, dvRd.grow hg4 hdv, trivial⟩ (fun v hv => W.mk ?_)
      subst hv
      generalize openF d = e at ho ⊢
      (conv => whnf)
      refine IteP.mk (fun h => absurd h ho) (fun _ => W.mk ?_)
      (conv => whnf)
      refine IteP.mk (fun _ => W.mk ?_) (fun h => absurd rfl h)
      (conv => whnf)
      repeat' (refine IteP.mk (fun _ => W.mk ?_) (fun _ => W.mk ?_) <;> first | (exfalso; omega) | (conv => whnf))
      refine ScaP.g okU (x := ()) rfl (fun v hv => W.mk ?_)
      subst hv
      (conv => whnf)
      refine ForkP.mk (fun _ => W.mk ?_) (fun h => by cases h)
      (conv => whnf)
      exact FinP.mk rfl
end Go.Proofs.YtgpfejgohclheaaGreat
