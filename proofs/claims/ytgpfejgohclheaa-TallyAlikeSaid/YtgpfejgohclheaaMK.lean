/- Layer 7: what is drawn: a division with no bounds on its lists; few. Layer 7, plain: the truths that fit are those that are gone through. Layer 7: the drawn values, opened. Layer 7, plain: who is in a pair does not count; at most as many count as there are members in no pair. Layer 7, plain: the answers of the members of a question, as they are told to the tellers. Layer 7: told: a list of a teller in which a member is, or is not. Layer 7: ref.Truths: all truths that fit, as a row of rows. Layer 7: small, of a division of any size. Layer 7, plain: the truths of the reference; whether members decide; the least question by all sets. Layer 7, the first seat: the law TallyBounds. Layer 7, plain: divisions whose lists allow the same votes, or fewer; both tellers agree. Layer 7, the first seat: ready; the law TallyAlike. Layer 7, the first seat: a drawn byte and a drawn truth value, opened. -/
import Derived.Test.YtgpfejgohclheaaMJ
import Derived.Test.YtgpfejgohclheaaMC
import Derived.Test.YtgpfejgohclheaaRows
import Derived.Test.YtgpfejgohclheaaME
import Derived.Test.YtgpfejgohclheaaMD
namespace Go.Proofs.Ytgpfejgohclheaa
open Go.Pal
set_option maxRecDepth 100000
def SlU {α : Type} (e : El α) (G : Hp) (v : Value) (l : List α) : Prop := ∃ a n c, v = .slice a n c ∧ SlR e.k e.R G a n c l
theorem SlU.uniq {α : Type} {e : El α} {G : Hp} {v : Value} {x y : List α} (h : SlU e G v x) (h' : SlU e G v y) : x = y := by
  obtain ⟨a, n, c, rfl, h⟩ := h
  obtain ⟨a', n', c', e', h'⟩ := h'
  cases e'
  exact h.uniq (fun cs x y h1 h2 => e.inj (h1.symm.trans h2)) h'
theorem SlU.grow {α : Type} {e : El α} {G G' : Hp} {v : Value} {x : List α} (hg : Grow G G') (h : SlU e G v x) : SlU e G' v x := by
  obtain ⟨a, n, c, rfl, h⟩ := h
  exact ⟨a, n, c, rfl, SlR.grow (G := G) (G' := G') (fun _ _ h => h) h hg⟩
theorem SlU.v {α : Type} {e : El α} {G : Hp} {v : Value} {x : List α} (h : SlU e G v x) (hb : x.length ≤ 140737488355328) : SlV e G v x := by
  obtain ⟨a, n, c, rfl, h⟩ := h
  exact ⟨a, n, c, rfl, h, by rw [← h.len]; exact hb⟩
structure DuC (G : Hp) (w0 w1 w2 w3 w4 w5 : Value) (d : Dv) : Prop where
  a0 : SlU intE G w0 d.a0
  a1 : SlU intE G w1 d.a1
  n0 : SlU intE G w2 d.n0
  n1 : SlU intE G w3 d.n1
  ps : SlU prE G w4 d.ps
  qs : SlU prE G w5 d.qs
theorem DuC.grow {G G' : Hp} {w0 w1 w2 w3 w4 w5 : Value} {d : Dv} (hg : Grow G G') (h : DuC G w0 w1 w2 w3 w4 w5 d) : DuC G' w0 w1 w2 w3 w4 w5 d :=
  ⟨h.a0.grow hg, h.a1.grow hg, h.n0.grow hg, h.n1.grow hg, h.ps.grow hg, h.qs.grow hg⟩
def DuV (G : Hp) (v : Value) (d : Dv) : Prop := ∃ w0 w1 w2 w3 w4 w5, v = .agg #[I d.m, w0, w1, w2, w3, w4, w5, U d.rule, I d.need, I d.quorum, U d.tie] ∧ DuC G w0 w1 w2 w3 w4 w5 d
def duRd : Rd Dv := ⟨DuV, fun {_ _ x y} ⟨w0, w1, w2, w3, w4, w5, h, h1⟩ ⟨v0, v1, v2, v3, v4, v5, h', h1'⟩ => by
    subst h
    simp only [Value.agg.injEq, Array.mk.injEq, List.cons.injEq, Value.int.injEq, true_and, and_true] at h'
    obtain ⟨e1, e2, e3, e4, e5, e6, e7, e8, e9, e10, e11⟩ := h'
    subst e2; subst e3; subst e4; subst e5; subst e6; subst e7
    have k0 := h1.a0.uniq h1'.a0
    have k1 := h1.a1.uniq h1'.a1
    have k2 := h1.n0.uniq h1'.n0
    have k3 := h1.n1.uniq h1'.n1
    have k4 := h1.ps.uniq h1'.ps
    have k5 := h1.qs.uniq h1'.qs
    cases x; cases y; simp_all, fun hg ⟨w0, w1, w2, w3, w4, w5, h, h1⟩ => ⟨w0, w1, w2, w3, w4, w5, h, h1.grow hg⟩⟩
theorem DuC.v {G : Hp} {w0 w1 w2 w3 w4 w5 : Value} {d : Dv} (h : DuC G w0 w1 w2 w3 w4 w5 d) (hf : fewF d = true) : DvC G w0 w1 w2 w3 w4 w5 d := by
  simp only [fewF, Bool.and_eq_true, decide_eq_true_eq] at hf
  obtain ⟨⟨⟨⟨⟨h1, h2⟩, h3⟩, h4⟩, h5⟩, h6⟩ := hf
  exact ⟨h.a0.v (by omega), h.a1.v (by omega), h.n0.v (by omega), h.n1.v (by omega), h.ps.v (by omega), h.qs.v (by omega)⟩
theorem DuV.v {G : Hp} {v : Value} {d : Dv} (h : DuV G v d) (hf : fewF d = true) : DvV G v d := by
  obtain ⟨w0, w1, w2, w3, w4, w5, e, h⟩ := h
  exact ⟨w0, w1, w2, w3, w4, w5, e, h.v hf⟩
theorem few20u : Sound Try.prog 20 id (gsca (args1 duRd fun _ => True) fun d v => v = .bool (fewF d)) := by
  refine comp20.gsca (Tab.nil _) (fun args G s h => ?_) (fun args G d h => ?_)
  · obtain ⟨v, rfl, _⟩ := h; simp
  · obtain ⟨u, rfl, ⟨w0, w1, w2, w3, w4, w5, rfl, hd⟩, _⟩ := h
    obtain ⟨x0, y0, z0, rfl, la0⟩ := id hd.a0
    obtain ⟨x1, y1, z1, rfl, la1⟩ := id hd.a1
    obtain ⟨x2, y2, z2, rfl, ln0⟩ := id hd.n0
    obtain ⟨x3, y3, z3, rfl, ln1⟩ := id hd.n1
    obtain ⟨x4, y4, z4, rfl, lps⟩ := id hd.ps
    obtain ⟨x5, y5, z5, rfl, lqs⟩ := id hd.qs
    have e0 := la0.len
    have e1 := la1.len
    have e2 := ln0.len
    have e3 := ln1.len
    have e4 := lps.len
    have e5 := lqs.len
    (conv => whnf)
    refine LoopP.of { α := Nat, fr := fun x => [(1, .c (.ptr 0 0)), (3, .v (I x))], H := fun _ => [(0, .cells .anon (DVC d x0 x1 x2 x3 x4 x5 y0 z0 y1 z1 y2 z2 y3 z3 y4 z4 y5 z5) 27)], ok := fun i _ => i ≤ 2 ∧ (0 < i → y0 ≤ 45 ∧ y2 ≤ 45) ∧ (1 < i → y1 ≤ 45 ∧ y3 ≤ 45), m := fun x => 2 - x }
      0 (HeadP.of [] ⟨rfl, rfl, trivial⟩ ⟨rfl, trivial⟩) ⟨Nat.zero_le _, fun h => by omega, fun h => by omega⟩ (fun _ => ⟨rfl, rfl⟩) (fun (i : Nat) G' hG hx => W.mk ?_)
    obtain ⟨hi, hx1, hx2⟩ := hx
    dsimp only
    (conv => whnf)
    refine IteP.mk (fun hlt => W.mk ?_) (fun hge => W.mk ?_) <;> (conv => whnf)
    · rcases (by omega : i = 0 ∨ i = 1) with rfl | rfl
      · repeat' (refine OblP.mk ?_ (W.mk ?_); (first | trivial | omega | (simp only [inR]; omega) | exact Nat.le_of_ble_eq_true (by rfl) | exact SlR.some (by assumption) (by omega)); (conv => whnf))
        refine EqsP.mk ⟨[.val (.slice x0 y0 z0)], rfl, rfl, W.mk ?_⟩
        (conv => whnf)
        refine IteP.mk (fun h1 => W.mk ?_) (fun h1 => W.mk ?_) <;> (conv => whnf)
        · refine FinP.mk ?_
          refine congrArg Value.bool ?_
          have : decide (d.a0.length ≤ 45) = false := by simp only [decide_eq_false_iff_not]; omega
          simp [fewF, this]
        · repeat' (refine OblP.mk ?_ (W.mk ?_); (first | trivial | omega | (simp only [inR]; omega) | exact Nat.le_of_ble_eq_true (by rfl) | exact SlR.some (by assumption) (by omega)); (conv => whnf))
          refine EqsP.mk ⟨[.val (.slice x2 y2 z2)], rfl, rfl, W.mk ?_⟩
          (conv => whnf)
          refine IteP.mk (fun h2 => W.mk ?_) (fun h2 => W.mk ?_) <;> (conv => whnf)
          · refine FinP.mk ?_
            refine congrArg Value.bool ?_
            have : decide (d.n0.length ≤ 45) = false := by simp only [decide_eq_false_iff_not]; omega
            simp [fewF, this]
          · repeat' (refine OblP.mk ?_ (W.mk ?_); (first | trivial | omega | (simp only [inR]; omega) | exact Nat.le_of_ble_eq_true (by rfl) | exact SlR.some (by assumption) (by omega)); (conv => whnf))
            refine RoundP.of 1 (HeadP.of [] ⟨rfl, rfl, trivial⟩ ⟨rfl, trivial⟩) ⟨by show (1 : Nat) ≤ 2; omega, fun _ => by omega, fun h => by exact absurd h (by show ¬ (1 < 1); omega)⟩ (by simp only; omega)
      · repeat' (refine OblP.mk ?_ (W.mk ?_); (first | trivial | omega | (simp only [inR]; omega) | exact Nat.le_of_ble_eq_true (by rfl) | exact SlR.some (by assumption) (by omega)); (conv => whnf))
        refine EqsP.mk ⟨[.val (.slice x1 y1 z1)], rfl, rfl, W.mk ?_⟩
        (conv => whnf)
        have hx1 := hx1 (by omega)
        refine IteP.mk (fun h1 => W.mk ?_) (fun h1 => W.mk ?_) <;> (conv => whnf)
        · refine FinP.mk ?_
          refine congrArg Value.bool ?_
          have : decide (d.a1.length ≤ 45) = false := by simp only [decide_eq_false_iff_not]; omega
          simp [fewF, this]
        · repeat' (refine OblP.mk ?_ (W.mk ?_); (first | trivial | omega | (simp only [inR]; omega) | exact Nat.le_of_ble_eq_true (by rfl) | exact SlR.some (by assumption) (by omega)); (conv => whnf))
          refine EqsP.mk ⟨[.val (.slice x3 y3 z3)], rfl, rfl, W.mk ?_⟩
          (conv => whnf)
          refine IteP.mk (fun h2 => W.mk ?_) (fun h2 => W.mk ?_) <;> (conv => whnf)
          · refine FinP.mk ?_
            refine congrArg Value.bool ?_
            have : decide (d.n1.length ≤ 45) = false := by simp only [decide_eq_false_iff_not]; omega
            simp [fewF, this]
          · repeat' (refine OblP.mk ?_ (W.mk ?_); (first | trivial | omega | (simp only [inR]; omega) | exact Nat.le_of_ble_eq_true (by rfl) | exact SlR.some (by assumption) (by omega)); (conv => whnf))
            refine RoundP.of 2 (HeadP.of [] ⟨rfl, rfl, trivial⟩ ⟨rfl, trivial⟩) ⟨by show (2 : Nat) ≤ 2; omega, fun _ => hx1, fun _ => by omega⟩ (by simp only; omega)
    · have : i = 2 := by omega
      subst this
      have hx1 := hx1 (by omega)
      have hx2 := hx2 (by omega)
      have d0 : decide (d.a0.length ≤ 45) = true := by simp only [decide_eq_true_eq]; omega
      have d1 : decide (d.a1.length ≤ 45) = true := by simp only [decide_eq_true_eq]; omega
      have d2 : decide (d.n0.length ≤ 45) = true := by simp only [decide_eq_true_eq]; omega
      have d3 : decide (d.n1.length ≤ 45) = true := by simp only [decide_eq_true_eq]; omega
      refine IteP.mk (fun h1 => W.mk ?_) (fun h1 => W.mk ?_) <;> (conv => whnf)
      · have d4 : decide (d.ps.length ≤ 12) = true := by simp only [decide_eq_true_eq]; omega
        refine IteP.mk (fun h2 => W.mk ?_) (fun h2 => W.mk ?_) <;> (conv => whnf) <;> refine FinP.mk ?_ <;> refine congrArg Value.bool ?_
        · have d5 : decide (d.qs.length ≤ 12) = true := by simp only [decide_eq_true_eq]; omega
          simp [fewF, d0, d1, d2, d3, d4, d5]
        · have d5 : decide (d.qs.length ≤ 12) = false := by simp only [decide_eq_false_iff_not]; omega
          simp [fewF, d5]
      · refine FinP.mk ?_
        refine congrArg Value.bool ?_
        have d4 : decide (d.ps.length ≤ 12) = false := by simp only [decide_eq_false_iff_not]; omega
        simp [fewF, d4]
end Go.Proofs.Ytgpfejgohclheaa

namespace Go.Proofs.Ytgpfejgohclheaa
open Go.Pal
theorem trK_mem {may : Nat → List Int} : ∀ r m f g, (∀ j, m ≤ j → j < m + r → g j ∈ may j) → (∀ j, j < m ∨ m + r ≤ j → g j = f j) → g ∈ trK may r m f
  | 0, m, f, g, _, h2 => by
    simp only [trK, List.mem_singleton]
    funext j
    exact h2 j (by omega)
  | r + 1, m, f, g, h1, h2 => by
    simp only [trK, List.mem_flatMap]
    refine ⟨g m, h1 m (by omega) (by omega), trK_mem r (m + 1) _ g (fun j a b => h1 j (by omega) (by omega)) (fun j hj => ?_)⟩
    by_cases hjm : j = m
    · subst hjm; rw [if_pos rfl]
    · rw [if_neg hjm]; exact h2 j (by omega)
theorem tru_mem {d : Dv} (hr : rightD d = true) {g : Nat → Int} : g ∈ truL (lookF d) ↔ (∀ k, k < d.m.toNat → g k ∈ votesF d k) ∧ ∀ k, d.m.toNat ≤ k → g k = 0 := by
  have hm := right_m hr
  constructor
  · intro h
    obtain ⟨h1, h2⟩ := trK_spec _ _ _ _ h
    refine ⟨fun k hk => ?_, fun k hk => h2 k (.inr (by show 0 + d.m.toNat ≤ k; omega))⟩
    have := h1 k (Nat.zero_le _) (by show k < 0 + d.m.toNat; omega)
    rwa [mayL, may_look hm.2 hk] at this
  · rintro ⟨h1, h2⟩
    refine trK_mem _ _ _ _ (fun j _ hj => ?_) (fun j hj => ?_)
    · have hj : j < 0 + d.m.toNat := hj
      rw [mayL, may_look hm.2 (by omega)]
      exact h1 j (by omega)
    · have hj : j < 0 ∨ 0 + d.m.toNat ≤ j := hj
      exact h2 j (by omega)

/-- A truth, as it is counted. -/
def Fit (d : Dv) (t : List Int) : Prop := (t.length : Int) = d.m ∧ ∀ k, k < t.length → t.getD k 0 ∈ votesF d k
theorem Fit.of {d : Dv} {t : List Int} (hr : rightD d = true) : ofF d (trT fun k => t.getD k 0) = ofF d t :=
  ofF_ext hr fun k hk => by have := right_m hr; exact trT_get (by omega)
theorem fault_clash {d : Dv} (h : faultF d = 0) : rightD d = true ∧ clashF d < 0 := by
  refine ⟨fault_right h, ?_⟩
  rw [faultF, fault_right h] at h
  simpa using h
end Go.Proofs.Ytgpfejgohclheaa

namespace Go.Proofs.Ytgpfejgohclheaa
open Go.Pal Go.ChangeShapes

theorem SlR.map {α β : Type} {k : Nat} {R : Hp → List Value → α → Prop} {R' : Hp → List Value → β → Prop} {G : Hp} {a : Option Addr} {n c : Nat} {l : List α} (f : α → β) (hf : ∀ cs x, R G cs x → R' G cs (f x)) (h : SlR k R G a n c l) : SlR k R' G a n c (l.map f) :=
  ⟨by rw [List.length_map, h.len], h.cap, h.some, fun i hi => by
    obtain ⟨cs, h1, h2, h3⟩ := h.at_ i (by simpa using hi)
    exact ⟨cs, h1, h2, by rw [List.getElem_map]; exact hf _ _ h3⟩⟩
theorem udl3 : Try.prog.underlying 3 = some (.int .i64) := by kernel_rfl
theorem udl5 : Try.prog.underlying 5 = some (.int .u8) := by kernel_rfl
theorem o3 : Opens Try.prog 3 (cdInt .i64) := .int udl3
theorem o5 : Opens Try.prog 5 (cdInt .u8) := .int udl5
theorem o4 : Opens Try.prog 4 cdBool := .bool (by kernel_rfl)
theorem o22 : Opens Try.prog 22 (cdSl (cdInt .i64)) := .slice (e := 3) (by kernel_rfl) o3 (by decide)
abbrev cdTwo := cdPair (cdSl (cdInt .i64)) (cdPair (cdSl (cdInt .i64)) cdUnit)
theorem o23 : Opens Try.prog 23 cdTwo := .two (e := 22) (by kernel_rfl) o22 (by kernel_rfl)
abbrev cdPr := cdPair (cdInt .i64) (cdPair (cdInt .i64) cdUnit)
theorem o82 : Opens Try.prog 82 cdPr := .struct (fs := [(3, 0), (3, 1)]) (by kernel_rfl) (by kernel_rfl) (OpensF.cons o3 (OpensF.cons o3 OpensF.nil))
theorem o83 : Opens Try.prog 83 cdPr := .struct (fs := [(3, 0), (3, 1)]) (by kernel_rfl) (by kernel_rfl) (OpensF.cons o3 (OpensF.cons o3 OpensF.nil))
theorem o24 : Opens Try.prog 24 (cdSl cdPr) := .slice (e := 82) (by kernel_rfl) o82 (by decide)
theorem o25 : Opens Try.prog 25 (cdSl cdPr) := .slice (e := 83) (by kernel_rfl) o83 (by decide)
abbrev cdDv := cdPair (cdInt .i64) (cdPair cdTwo (cdPair cdTwo (cdPair (cdSl cdPr) (cdPair (cdSl cdPr) (cdPair (cdInt .u8) (cdPair (cdInt .i64) (cdPair (cdInt .i64) (cdPair (cdInt .u8) cdUnit))))))))
theorem o27 : Opens Try.prog 27 cdDv := .struct (fs := [(3, 0), (23, 1), (23, 3), (24, 5), (25, 6), (5, 7), (3, 8), (3, 9), (5, 10)]) (by kernel_rfl) (by kernel_rfl) (OpensF.cons o3 (OpensF.cons o23 (OpensF.cons o23 (OpensF.cons o24 (OpensF.cons o25 (OpensF.cons o5 (OpensF.cons o3 (OpensF.cons o3 (OpensF.cons o5 OpensF.nil)))))))))
theorem pr_cd {G : Hp} {cs : List Value} {x} (h : cdPr.R G cs x) : prE.R G cs (x.1, x.2.1) := by
  obtain ⟨_, _, rfl, ⟨rfl, _⟩, _, _, rfl, ⟨rfl, _⟩, rfl⟩ := h; rfl
theorem dv_val {G : Hp} {v : Value} (h : ∃ x, VR cdDv true G v x) : ∃ d, DuV G v d ∧ rul d := by
  obtain ⟨x, cs, rfl, _, _, e, ⟨rfl, _⟩, _, _, rfl, ⟨_, _, rfl, ⟨a0, n0, c0, rfl, h0, _⟩, _, _, rfl, ⟨a1, n1, c1, rfl, h1, _⟩, rfl⟩, _, _, rfl, ⟨_, _, rfl, ⟨a2, n2, c2, rfl, h2, _⟩, _, _, rfl, ⟨a3, n3, c3, rfl, h3, _⟩, rfl⟩,
    _, _, rfl, ⟨a4, n4, c4, rfl, h4, _⟩, _, _, rfl, ⟨a5, n5, c5, rfl, h5, _⟩, _, _, rfl, ⟨rfl, hr⟩, _, _, rfl, ⟨rfl, _⟩, _, _, rfl, ⟨rfl, _⟩, _, _, rfl, ⟨rfl, _⟩, rfl⟩ := h
  have hi : ∀ (cs : List Value) x, (cdInt .i64).R G cs x → intE.R G cs (id x) := fun _ _ h => h.1
  refine ⟨⟨x.1, x.2.1.1, x.2.1.2.1, x.2.2.1.1, x.2.2.1.2.1, x.2.2.2.1.map fun p => (p.1, p.2.1), x.2.2.2.2.1.map fun p => (p.1, p.2.1), x.2.2.2.2.2.1, x.2.2.2.2.2.2.1, x.2.2.2.2.2.2.2.1, x.2.2.2.2.2.2.2.2.1⟩,
    ⟨.slice a0 n0 c0, .slice a1 n1 c1, .slice a2 n2 c2, .slice a3 n3 c3, .slice a4 n4 c4, .slice a5 n5 c5, ?_, ⟨a0, n0, c0, rfl, ?_⟩, ⟨a1, n1, c1, rfl, ?_⟩, ⟨a2, n2, c2, rfl, ?_⟩, ⟨a3, n3, c3, rfl, ?_⟩, ⟨a4, n4, c4, rfl, SlR.map _ (fun _ _ h => pr_cd h) h4⟩, ⟨a5, n5, c5, rfl, SlR.map _ (fun _ _ h => pr_cd h) h5⟩⟩, ?_⟩
  · simp at e
    exact congrArg Value.agg (Array.toList_inj.1 e)
  · have := SlR.map id hi h0; rwa [List.map_id] at this
  · have := SlR.map id hi h1; rwa [List.map_id] at this
  · have := SlR.map id hi h2; rwa [List.map_id] at this
  · have := SlR.map id hi h3; rwa [List.map_id] at this
  · simp only [inR] at hr
    exact ⟨hr.1, by have := hr.2; show _ ≤ _; omega⟩
theorem ownK : ownKnob Try.checked.prog.godebug = none := by kernel_rfl
theorem laidK : laidOutB Try.checked.prog = true := by kernel_rfl
theorem boolK : Try.checked.prog.underlying 4 = some .bool := by kernel_rfl
abbrev dv0 : Value := .agg #[.int .i64 0, .slice none 0 0, .slice none 0 0, .slice none 0 0, .slice none 0 0, .slice none 0 0, .slice none 0 0, .int .u8 0, .int .i64 0, .int .i64 0, .int .u8 0]
end Go.Proofs.Ytgpfejgohclheaa

namespace Go.Proofs.Ytgpfejgohclheaa
open Go.Pal
def C3.two (c : C3) : Int := c.c1 + c.c2
end Go.Proofs.Ytgpfejgohclheaa

namespace Go.Proofs.Ytgpfejgohclheaa
open Go.Pal
def toldF (l : List Int) (m : Int) (b : Bool) : List Int := l.filter (fun x => decide (x < m)) ++ (if b then [m] else []) ++ l.filter (fun x => decide (m < x))
theorem told_mem {l : List Int} {m : Int} {b : Bool} {y : Int} : y ∈ toldF l m b ↔ if y = m then b = true else y ∈ l := by
  simp only [toldF, List.mem_append, List.mem_filter, decide_eq_true_eq]
  by_cases h : y = m
  · subst h; rw [if_pos rfl]; cases b <;> simp
  · rw [if_neg h]
    have hb : ¬ y ∈ (if b = true then [m] else []) := by cases b <;> simp [h]
    constructor
    · rintro ((⟨h1, _⟩ | h1) | ⟨h1, _⟩)
      · exact h1
      · exact absurd h1 hb
      · exact h1
    · intro h1
      rcases (by omega : y < m ∨ m < y) with h2 | h2
      · exact .inl (.inl ⟨h1, h2⟩)
      · exact .inr ⟨h1, h2⟩
theorem told_has {l : List Int} {m : Int} {b : Bool} {y : Int} : (toldF l m b).contains y = if y = m then b else l.contains y := by
  rw [Bool.eq_iff_iff, List.contains_iff_mem, told_mem]
  split
  · rfl
  · rw [List.contains_iff_mem]
theorem gd0 {l : List Int} {k : Nat} (h : k < l.length) : l.getD k 0 = l[k] := by simp [h]
theorem ris_pw {l : List Int} : risF l = true ↔ l.Pairwise (· < ·) := by
  rw [List.pairwise_iff_getElem]
  constructor
  · intro h
    have h : ∀ k, k + 1 < l.length → l.getD k 0 < l.getD (k + 1) 0 := by
      intro k hk
      simp only [risF, List.all_eq_true, List.mem_range, decide_eq_true_eq] at h
      exact h k (by omega)
    intro i j hi hj hij
    have key : ∀ n, ∀ hn : i + n + 1 < l.length, l[i] < l[i + n + 1] := by
      intro n
      induction n with
      | zero => intro hn; have := h i hn; rwa [gd0 (by omega), gd0 hn] at this
      | succ n ih =>
        intro hn
        have h1 := ih (by omega)
        have h2 := h (i + n + 1) (by omega)
        rw [gd0 (by omega), gd0 (by omega)] at h2
        exact Int.lt_trans h1 h2
    have := key (j - i - 1) (by omega)
    have e : i + (j - i - 1) + 1 = j := by omega
    simpa only [e] using this
  · intro h
    exact ris_true fun k hk => by rw [gd0 (by omega), gd0 hk]; exact h _ _ _ _ (by omega)
theorem told_pw {l : List Int} {m : Int} {b : Bool} (h : l.Pairwise (· < ·)) : (toldF l m b).Pairwise (· < ·) := by
  rw [toldF, List.pairwise_append, List.pairwise_append]
  refine ⟨⟨h.filter _, by cases b <;> simp, fun x hx y hy => ?_⟩, h.filter _, fun x hx y hy => ?_⟩
  · have h1 := (List.mem_filter.1 hx).2
    simp only [decide_eq_true_eq] at h1
    cases b
    · simp at hy
    · simp at hy; subst hy; exact h1
  · have h2 := (List.mem_filter.1 hy).2
    simp only [decide_eq_true_eq] at h2
    rcases List.mem_append.1 hx with hx | hx
    · have h1 := (List.mem_filter.1 hx).2
      simp only [decide_eq_true_eq] at h1
      omega
    · cases b
      · simp at hx
      · simp at hx; subst hx; exact h2
theorem inF_iff {x a b : Int} : inF x a b = true ↔ a ≤ x ∧ x ≤ b := by simp [inF]
theorem list_iff {m : Int} {l : List Int} : listF m l = true ↔ (∀ x ∈ l, 0 ≤ x ∧ x < m) ∧ l.Pairwise (· < ·) := by
  rw [listF, Bool.and_eq_true, ris_pw, List.all_eq_true]
  constructor
  · rintro ⟨h1, h2⟩; exact ⟨fun x hx => by have := inF_iff.1 (h1 x hx); omega, h2⟩
  · rintro ⟨h1, h2⟩; exact ⟨fun x hx => inF_iff.2 (by have := h1 x hx; omega), h2⟩
theorem told_list {m x : Int} {l : List Int} {b : Bool} (h : listF m l = true) (h0 : 0 ≤ x) (h1 : x < m) : listF m (toldF l x b) = true := by
  obtain ⟨h2, h3⟩ := list_iff.1 h
  refine list_iff.2 ⟨fun y hy => ?_, told_pw h3⟩
  have := told_mem.1 hy
  split at this
  · omega
  · exact h2 y this
theorem list_len {m : Int} {l : List Int} (h : listF m l = true) : l.length ≤ m.toNat := by
  obtain ⟨h1, h2⟩ := list_iff.1 h
  have := len_sub l ((List.range m.toNat).map Int.ofNat) (h2.imp fun h => Int.ne_of_lt h) (fun x hx => by
    have := h1 x hx
    exact List.mem_map.2 ⟨x.toNat, List.mem_range.2 (by omega), by show ((x.toNat : Nat) : Int) = x; omega⟩)
  simpa using this
/-- A member's vote, on both lists or on none. -/
def ansD (t : List Int) (d : Dv) (x : Int) : Dv := { d with a0 := toldF d.a0 x (decide (t.getD x.toNat 0 = 1)), a1 := toldF d.a1 x (decide (t.getD x.toNat 0 = 1)), n0 := toldF d.n0 x (decide (t.getD x.toNat 0 = 2)), n1 := toldF d.n1 x (decide (t.getD x.toNat 0 = 2)) }
theorem right_lists {d : Dv} (h : rightD d = true) : listF d.m d.a0 = true ∧ listF d.m d.a1 = true ∧ listF d.m d.n0 = true ∧ listF d.m d.n1 = true := by
  simp only [rightD, Bool.and_eq_true] at h
  obtain ⟨⟨⟨⟨⟨⟨h1, h2⟩, h3⟩, h4⟩, h5⟩, h6⟩, h7⟩ := h
  exact ⟨h2, h4, h3, h5⟩
theorem ans_right {t : List Int} {d : Dv} {x : Int} (h : rightD d = true) (h0 : 0 ≤ x) (hm : x < d.m) : rightD (ansD t d x) = true := by
  simp only [rightD, Bool.and_eq_true] at h ⊢
  obtain ⟨⟨⟨⟨⟨⟨h1, h2⟩, h3⟩, h4⟩, h5⟩, h6⟩, h7⟩ := h
  exact ⟨⟨⟨⟨⟨⟨h1, told_list h2 h0 hm⟩, told_list h3 h0 hm⟩, told_list h4 h0 hm⟩, told_list h5 h0 hm⟩, h6⟩, h7⟩
theorem ans_ona {t : List Int} {d : Dv} {x y : Int} : onF (ansD t d x).a y = if y = x then (if t.getD x.toNat 0 = 1 then 2 else 0) else onF d.a y := by
  show b2 ((toldF d.a0 x _).contains y) + b2 ((toldF d.a1 x _).contains y) = _
  rw [told_has, told_has]
  by_cases h : y = x
  · rw [if_pos h, if_pos h, if_pos h]
    by_cases h1 : t.getD x.toNat 0 = 1
    · rw [if_pos h1, decide_eq_true h1]; rfl
    · rw [if_neg h1, decide_eq_false h1]; rfl
  · rw [if_neg h, if_neg h, if_neg h]; rfl
theorem ans_onn {t : List Int} {d : Dv} {x y : Int} : onF (ansD t d x).n y = if y = x then (if t.getD x.toNat 0 = 2 then 2 else 0) else onF d.n y := by
  show b2 ((toldF d.n0 x _).contains y) + b2 ((toldF d.n1 x _).contains y) = _
  rw [told_has, told_has]
  by_cases h : y = x
  · rw [if_pos h, if_pos h, if_pos h]
    by_cases h1 : t.getD x.toNat 0 = 2
    · rw [if_pos h1, decide_eq_true h1]; rfl
    · rw [if_neg h1, decide_eq_false h1]; rfl
  · rw [if_neg h, if_neg h, if_neg h]; rfl
theorem ans_votes {t : List Int} {d : Dv} {x y : Int} (ht : t.getD x.toNat 0 = 0 ∨ t.getD x.toNat 0 = 1 ∨ t.getD x.toNat 0 = 2) : votesF (ansD t d x) y = if y = x then [t.getD x.toNat 0] else votesF d y := by
  simp only [votesF, mayF, ans_ona, ans_onn]
  by_cases h : y = x
  · simp only [if_pos h]
    rcases ht with h | h | h <;> rw [h] <;> decide
  · simp only [if_neg h]
theorem ans_cla {t : List Int} {d : Dv} {x : Int} {k : Nat} (h : cla d k = false) : cla (ansD t d x) k = false := by
  simp only [cla, ans_ona, ans_onn]
  by_cases h1 : (k : Int) = x
  · simp only [if_pos h1]
    by_cases h2 : t.getD x.toNat 0 = 1
    · rw [h2]; decide
    · rw [if_neg h2]; simp
  · simp only [if_neg h1]; exact h
theorem fault_iff {d : Dv} : faultF d = 0 ↔ rightD d = true ∧ ∀ k, k < d.m.toNat → cla d k = false := by
  constructor
  · intro h
    obtain ⟨hr, hc⟩ := fault_clash h
    refine ⟨hr, fun k hk => ?_⟩
    unfold clashF at hc
    split at hc
    · omega
    · rename_i hn
      rw [List.find?_eq_none] at hn
      have := hn k (List.mem_range.2 hk)
      simpa using this
  · rintro ⟨hr, hc⟩
    have : (List.range d.m.toNat).find? (cla d) = none := by
      rw [List.find?_eq_none]
      intro k hk
      rw [hc k (List.mem_range.1 hk)]; simp
    rw [faultF, hr, clashF, this]; rfl
theorem cntK_votes (d : Dv) (m : Int) : cntK d m 3 = (votesF d m).length := by
  simp only [cntK, votesF, List.length_append]
  cases mayF d m (0 : Nat) <;> cases mayF d m (1 : Nat) <;> cases mayF d m (2 : Nat) <;> simp_all [b2]
theorem dbt_votes (d : Dv) (m : Nat) : dbt d m = decide (1 < (votesF d m).length) := by
  rw [dbt, cntK_votes]
  congr 1
  rw [eq_iff_iff]; omega
theorem doubts_len (d : Dv) : (doubtsF d).length = (List.range d.m.toNat).countP (dbt d) := by
  rw [doubtsF, dK, List.length_map, List.countP_eq_length_filter]
theorem ans_open {t : List Int} {d : Dv} {x : Int} (ho : openF d = 0) (h0 : 0 ≤ x) (hm : x < d.m) (ht : t.getD x.toNat 0 = 0 ∨ t.getD x.toNat 0 = 1 ∨ t.getD x.toNat 0 = 2) : openF (ansD t d x) = 0 := by
  obtain ⟨hf, h8⟩ := open_fault ho
  obtain ⟨hr, hc⟩ := fault_iff.1 hf
  have hf' : faultF (ansD t d x) = 0 := fault_iff.2 ⟨ans_right hr h0 hm, fun k hk => ans_cla (hc k hk)⟩
  have hl : (doubtsF (ansD t d x)).length ≤ (doubtsF d).length := by
    rw [doubts_len, doubts_len]
    refine List.countP_mono_left fun k _ hk => ?_
    rw [dbt_votes, ans_votes ht] at hk
    rw [dbt_votes]
    split at hk
    · simp at hk
    · exact hk
  rw [openF, if_neg (by omega), hf']
/-- A division after the answers of some members. -/
structure Ansd (t : List Int) (d0 d : Dv) (q : List Int) : Prop where
  same : d = { d0 with a0 := d.a0, a1 := d.a1, n0 := d.n0, n1 := d.n1 }
  op : openF d = 0
  vt : ∀ y, votesF d y = if y ∈ q then [t.getD y.toNat 0] else votesF d0 y
theorem Ansd.nil {t : List Int} {d : Dv} (h : openF d = 0) : Ansd t d d [] := ⟨rfl, h, fun y => by simp⟩
theorem Ansd.snoc {t : List Int} {d0 d : Dv} {q : List Int} {x : Int} (h : Ansd t d0 d q) (h0 : 0 ≤ x) (hm : x < d0.m) (ht : t.getD x.toNat 0 = 0 ∨ t.getD x.toNat 0 = 1 ∨ t.getD x.toNat 0 = 2) : Ansd t d0 (ansD t d x) (q ++ [x]) := by
  have em : d.m = d0.m := by rw [h.same]
  refine ⟨?_, ans_open h.op h0 (by omega) ht, fun y => ?_⟩
  · have := h.same
    unfold ansD
    generalize d.a0 = a at *
    generalize d.a1 = a at *
    generalize d.n0 = a at *
    generalize d.n1 = a at *
    subst this
    rfl
  · rw [ans_votes ht, h.vt]
    by_cases hy : y = x
    · subst hy; simp
    · simp [hy]
theorem ofK_lists (d : Dv) (a b c e : List Int) (t : List Int) : ∀ i, ofK { d with a0 := a, a1 := b, n0 := c, n1 := e } t i = ofK d t i
  | 0 => rfl
  | i + 1 => by
    have ih := ofK_lists d a b c e t i
    simp only [ofK]
    rw [ih]; rfl
theorem ofP_lists (d : Dv) (a b c e : List Int) (t : List Int) : ∀ i, ofP { d with a0 := a, a1 := b, n0 := c, n1 := e } t i = ofP d t i
  | 0 => ofK_lists d a b c e t _
  | i + 1 => by
    have ih := ofP_lists d a b c e t i
    simp only [ofP]
    rw [ih]; rfl
theorem of_lists (d : Dv) (a b c e : List Int) (t : List Int) : ofF { d with a0 := a, a1 := b, n0 := c, n1 := e } t = ofF d t := by
  unfold ofF
  rw [ofP_lists]
end Go.Proofs.Ytgpfejgohclheaa

namespace Go.Proofs.Ytgpfejgohclheaa
open Go.Pal
set_option maxRecDepth 100000
def booRd : Rd Bool := ⟨fun _ v x => v = .bool x, fun h h' => by rw [h] at h'; cases h'; rfl, fun _ h => h⟩
end Go.Proofs.Ytgpfejgohclheaa

namespace Go.Proofs.Ytgpfejgohclheaa
open Go.Pal
set_option maxRecDepth 100000
abbrev hV (x : Hdr) : Value := .slice x.1 x.2.1 x.2.2
/-- Headers and the rows that they stand for. -/
def RRs (G : Hp) (hs : List Hdr) (ts : List (List Int)) : Prop := hs.length = ts.length ∧ ∀ (i : Nat) (h : Hdr) (t : List Int), hs[i]? = some h → ts[i]? = some t → SlV u8E G (hV h) t
theorem RRs.nil {G : Hp} : RRs G [] [] := ⟨rfl, fun i h t e => by simp at e⟩
theorem RRs.one {G : Hp} {h : Hdr} {t : List Int} (e : SlV u8E G (hV h) t) : RRs G [h] [t] := ⟨rfl, fun i h' t' e1 e2 => by
  cases i with
  | zero => simp at e1 e2; subst e1; subst e2; exact e
  | succ i => simp at e1⟩
theorem RRs.grow {G G' : Hp} {hs : List Hdr} {ts : List (List Int)} (hg : Grow G G') (e : RRs G hs ts) : RRs G' hs ts := ⟨e.1, fun i h t e1 e2 => (e.2 i h t e1 e2).grow hg⟩
theorem RRs.app {G : Hp} {hs hs' : List Hdr} {ts ts' : List (List Int)} (e : RRs G hs ts) (e' : RRs G hs' ts') : RRs G (hs ++ hs') (ts ++ ts') := by
  refine ⟨by rw [List.length_append, List.length_append, e.1, e'.1], fun i h t e1 e2 => ?_⟩
  by_cases hi : i < hs.length
  · rw [List.getElem?_append_left hi] at e1
    rw [List.getElem?_append_left (by rw [← e.1]; exact hi)] at e2
    exact e.2 i h t e1 e2
  · rw [List.getElem?_append_right (by omega)] at e1
    rw [List.getElem?_append_right (by rw [← e.1]; omega), ← e.1] at e2
    exact e'.2 _ h t e1 e2
theorem RRs.uniq {G : Hp} {hs : List Hdr} {ts ts' : List (List Int)} (e : RRs G hs ts) (e' : RRs G hs ts') : ts = ts' := by
  apply List.ext_getElem (by rw [← e.1, e'.1])
  intro i h1 h2
  have hi : i < hs.length := by rw [e.1]; exact h1
  exact (e.2 i hs[i] ts[i] (List.getElem?_eq_getElem hi) (List.getElem?_eq_getElem h1)).uniq (e'.2 i hs[i] ts'[i] (List.getElem?_eq_getElem hi) (List.getElem?_eq_getElem h2))
end Go.Proofs.Ytgpfejgohclheaa

namespace Go.Proofs.Ytgpfejgohclheaa
open Go.Pal
set_option maxRecDepth 100000
end Go.Proofs.Ytgpfejgohclheaa

namespace Go.Proofs.Ytgpfejgohclheaa
open Go.Pal
end Go.Proofs.Ytgpfejgohclheaa

namespace Go.Proofs.Ytgpfejgohclheaa
open Go.Pal
set_option maxRecDepth 100000
set_option maxHeartbeats 1000000
end Go.Proofs.Ytgpfejgohclheaa

namespace Go.Proofs.Ytgpfejgohclheaa
open Go.Pal
/-- The same, but for the lists. -/
def SameD (d x : Dv) : Prop := x = { d with a0 := x.a0, a1 := x.a1, n0 := x.n0, n1 := x.n1 }
theorem SameD.m {d x : Dv} (h : SameD d x) : x.m = d.m := by rw [h]
theorem SameD.of {d x : Dv} (h : SameD d x) (t : List Int) : ofF x t = ofF d t := by rw [h, of_lists]
theorem SameD.out {d x : Dv} (h : SameD d x) (n : Nm2) : outF x n = outF d n := by rw [h]; rfl
theorem SameD.right {d x : Dv} (h : SameD d x) (hr : rightD d = true) (h0 : listF d.m x.a0 = true) (h1 : listF d.m x.a1 = true) (h2 : listF d.m x.n0 = true) (h3 : listF d.m x.n1 = true) : rightD x = true := by
  rw [h]
  simp only [rightD, Bool.and_eq_true] at hr ⊢
  obtain ⟨⟨⟨⟨⟨⟨k1, k2⟩, k3⟩, k4⟩, k5⟩, k6⟩, k7⟩ := hr
  exact ⟨⟨⟨⟨⟨⟨k1, h0⟩, h2⟩, h1⟩, h3⟩, k6⟩, k7⟩
theorem tru_eq {d x : Dv} (h : SameD d x) (hv : ∀ y, votesF x y = votesF d y) : truL (lookF x) = truL (lookF d) := by
  have e : mayL (lookF x) = mayL (lookF d) := by
    funext m
    simp only [mayL, lookF, hv, h.m]
  show trK (mayL (lookF x)) x.m.toNat 0 (fun _ => 0) = trK (mayL (lookF d)) d.m.toNat 0 (fun _ => 0)
  rw [e, h.m]
theorem nums_eq {d x : Dv} (h : SameD d x) (hv : ∀ y, votesF x y = votesF d y) : numsF x = numsF d := by
  rw [numsF, numsF, tru_eq h hv]
  apply List.map_congr_left
  intro f _
  exact h.of _
theorem tol_eq {d x : Dv} (h : SameD d x) (hv : ∀ y, votesF x y = votesF d y) : tolF x = tolF d := by
  rw [tolF, tolF, tru_eq h hv]
  apply List.map_congr_left
  intro f _
  show (Tr40.of f, outF x (ofF x (trT f))) = (Tr40.of f, outF d (ofF d (trT f)))
  rw [h.of, h.out]
theorem doubts_eq {d x : Dv} (h : SameD d x) (hv : ∀ y, votesF x y = votesF d y) : doubtsF x = doubtsF d := by
  have e : dbt x = dbt d := by
    funext k
    rw [dbt_votes, dbt_votes, hv]
  rw [doubtsF, doubtsF, dK, dK, e, h.m]
theorem ask_eq {d x : Dv} (h : SameD d x) (hv : ∀ y, votesF x y = votesF d y) : askF x = askF d := by
  have e : askN x = askN d := by
    funext n
    rw [askN, askN, tol_eq h hv, doubts_eq h hv]
  rw [askF, askF, e, doubts_eq h hv]
theorem onF_swap (l r : List Int) (y : Int) : onF (l, r) y = onF (r, l) y := by
  show b2 (l.contains y) + b2 (r.contains y) = b2 (r.contains y) + b2 (l.contains y)
  omega
theorem votes_on {d x : Dv} (ha : ∀ y, onF x.a y = onF d.a y) (hn : ∀ y, onF x.n y = onF d.n y) (y : Int) : votesF x y = votesF d y := by
  simp only [votesF, mayF, ha, hn]
theorem cla_on {d x : Dv} (ha : ∀ y, onF x.a y = onF d.a y) (hn : ∀ y, onF x.n y = onF d.n y) (k : Nat) : cla x k = cla d k := by
  simp only [cla, ha, hn]
theorem open_on {d x : Dv} (h : SameD d x) (hr : rightD x = true) (ho : openF d = 0) (ha : ∀ y, onF x.a y = onF d.a y) (hn : ∀ y, onF x.n y = onF d.n y) : openF x = 0 := by
  obtain ⟨hf, h8⟩ := open_fault ho
  obtain ⟨_, hc⟩ := fault_iff.1 hf
  have hf' : faultF x = 0 := fault_iff.2 ⟨hr, fun k hk => by rw [cla_on ha hn]; exact hc k (by rw [← h.m]; exact hk)⟩
  rw [openF, if_neg (by rw [doubts_eq h (votes_on ha hn)]; omega), hf']
def swapA (d : Dv) : Dv := { d with a0 := d.a1, a1 := d.a0 }
def swapN (d : Dv) : Dv := { d with n0 := d.n1, n1 := d.n0 }
theorem swapA_all {d : Dv} (ho : openF d = 0) : openF (swapA d) = 0 ∧ numsF (swapA d) = numsF d ∧ askF (swapA d) = askF d := by
  have hr := fault_right (open_fault ho).1
  obtain ⟨l0, l1, l2, l3⟩ := right_lists hr
  have hs : SameD d (swapA d) := rfl
  have ha : ∀ y, onF (swapA d).a y = onF d.a y := fun y => onF_swap d.a1 d.a0 y
  have hn : ∀ y, onF (swapA d).n y = onF d.n y := fun y => rfl
  exact ⟨open_on hs (hs.right hr l1 l0 l2 l3) ho ha hn, nums_eq hs (votes_on ha hn), ask_eq hs (votes_on ha hn)⟩
theorem swapN_all {d : Dv} (ho : openF d = 0) : openF (swapN d) = 0 ∧ numsF (swapN d) = numsF d ∧ askF (swapN d) = askF d := by
  have hr := fault_right (open_fault ho).1
  obtain ⟨l0, l1, l2, l3⟩ := right_lists hr
  have hs : SameD d (swapN d) := rfl
  have ha : ∀ y, onF (swapN d).a y = onF d.a y := fun y => rfl
  have hn : ∀ y, onF (swapN d).n y = onF d.n y := fun y => onF_swap d.n1 d.n0 y
  exact ⟨open_on hs (hs.right hr l0 l1 l3 l2) ho ha hn, nums_eq hs (votes_on ha hn), ask_eq hs (votes_on ha hn)⟩
/-- Both tellers of each lobby have the first one's list. -/
def oneD (d : Dv) : Dv := { d with a1 := d.a0, n1 := d.n0 }
theorem one_right {d : Dv} (hr : rightD d = true) : rightD (oneD d) = true := by
  obtain ⟨l0, l1, l2, l3⟩ := right_lists hr
  exact SameD.right (d := d) (x := oneD d) rfl hr l0 l0 l2 l2
theorem one_votes (d : Dv) (y : Int) : (votesF (oneD d) y).length ≤ 1 := by
  have ha : onF (oneD d).a y = 2 * b2 (d.a0.contains y) := by show b2 (d.a0.contains y) + b2 (d.a0.contains y) = _; omega
  have hn : onF (oneD d).n y = 2 * b2 (d.n0.contains y) := by show b2 (d.n0.contains y) + b2 (d.n0.contains y) = _; omega
  simp only [votesF, mayF, ha, hn]
  cases d.a0.contains y <;> cases d.n0.contains y <;> decide
theorem one_doubts (d : Dv) : doubtsF (oneD d) = [] := by
  rw [doubtsF, dK, List.filter_eq_nil_iff.2 fun k _ => by rw [dbt_votes]; simpa using one_votes d k]; rfl
theorem one_open {d : Dv} (hf : faultF (oneD d) = 0) : openF (oneD d) = 0 := by
  rw [openF, if_neg (by rw [one_doubts]; simp), hf]
theorem one_ask (d : Dv) : askF (oneD d) = [] := by
  rw [askF, one_doubts]; rfl
theorem one_allowed {d : Dv} (hf : faultF (oneD d) = 0) : (allowedF (oneD d)).length = 1 := by
  have hr := fault_right hf
  obtain ⟨f, hfm⟩ := List.exists_mem_of_ne_nil _ (numbers_ne hf)
  have huni : ∀ g ∈ truL (lookF (oneD d)), g = f := by
    intro g hg
    obtain ⟨g1, g2⟩ := (tru_mem hr).1 hg
    obtain ⟨f1, f2⟩ := (tru_mem hr).1 hfm
    funext k
    by_cases hk : k < (oneD d).m.toNat
    · have h1 := g1 k hk
      have h2 := f1 k hk
      have h3 := one_votes d k
      generalize votesF (oneD d) k = V at h1 h2 h3
      match V, h3, h1, h2 with
      | [a], _, h1, h2 => simp at h1 h2; rw [h1, h2]
      | a :: b :: r, h3, _, _ => simp at h3
    · rw [g2 k (by omega), f2 k (by omega)]
  have hc : ∀ y, (outsF (oneD d)).contains y = decide (y = outF (oneD d) (ofF (oneD d) (trT f))) := fun y => by
    rw [Bool.eq_iff_iff, List.contains_iff_mem, decide_eq_true_eq, outsF, List.mem_map]
    constructor
    · rintro ⟨g, hg, rfl⟩
      rw [huni g hg]
    · rintro rfl
      exact ⟨f, hfm, rfl⟩
  unfold allowedF
  have h012 := outF_012 (oneD d) (ofF (oneD d) (trT f))
  generalize outF (oneD d) (ofF (oneD d) (trT f)) = o at hc h012
  simp only [List.filter, hc]
  rcases h012 with rfl | rfl | rfl <;> rfl
theorem one_clash {d : Dv} (hr : rightD d = true) (hf : faultF (oneD d) ≠ 0) : faultF (oneD d) = 9 ∧ 0 ≤ clashF (oneD d) := by
  have h1 := one_right hr
  rw [faultF, h1, if_pos rfl] at hf ⊢
  split at hf
  · rename_i h; exact ⟨if_pos h, h⟩
  · exact absurd rfl hf
end Go.Proofs.Ytgpfejgohclheaa

namespace Go.Proofs.Ytgpfejgohclheaa
open Go.Pal
set_option maxRecDepth 100000
def readyF (d : Dv) : Bool := fewF d && decide (openF d = 0)
theorem ready_fault {d : Dv} (h : readyF d = true) : fewF d = true ∧ openF d = 0 ∧ faultF d = 0 := by
  simp only [readyF, Bool.and_eq_true, decide_eq_true_eq] at h
  exact ⟨h.1, h.2, (open_fault h.2).1⟩
def tabRdy : Tab Try.prog := Tab.cons 20 _ few20u body20 (Tab.cons 17 _ open17 body17 (Tab.nil _))
theorem ready26 : Sound Try.prog 26 id (gsca (args1 duRd fun _ => True) fun d v => v = .bool (readyF d)) := by
  refine comp26.gsca tabRdy (fun args G s h => ?_) (fun args G d h => ?_)
  · obtain ⟨v, rfl, _⟩ := h; simp
  · obtain ⟨u, rfl, ⟨w0, w1, w2, w3, w4, w5, rfl, hd⟩, _⟩ := h
    have hdv : DuV G _ d := ⟨_, _, _, _, _, _, rfl, hd⟩
    obtain ⟨x0, y0, z0, rfl, la0⟩ := id hd.a0
    obtain ⟨x1, y1, z1, rfl, la1⟩ := id hd.a1
    obtain ⟨x2, y2, z2, rfl, ln0⟩ := id hd.n0
    obtain ⟨x3, y3, z3, rfl, ln1⟩ := id hd.n1
    obtain ⟨x4, y4, z4, rfl, lps⟩ := id hd.ps
    obtain ⟨x5, y5, z5, rfl, lqs⟩ := id hd.qs
    (conv => whnf)
    refine ScaP.g (ok1 duRd fun _ => True) (x := d) ⟨_, rfl, hdv, trivial⟩ (fun v hv => W.mk ?_)
    subst hv
    (conv => whnf)
    refine ForkP.mk (fun hf => W.mk ?_) (fun hf => W.mk ?_) <;> (conv => whnf)
    · refine ScaP.g (ok1 dvRd fun _ => True) (x := d) ⟨_, rfl, hdv.v hf, trivial⟩ (fun v hv => W.mk ?_)
      subst hv
      (conv => whnf)
      repeat' (first | (refine IteP.mk (fun _ => W.mk ?_) (fun _ => W.mk ?_) <;> (conv => whnf)) | (refine FinP.mk ?_))
      all_goals (refine congrArg Value.bool ?_; simp [readyF, *])
    · refine FinP.mk ?_
      refine congrArg Value.bool ?_
      simp [readyF, hf]
def tabAi : Tab Try.prog := Tab.cons 20 _ few20u body20 (Tab.cons 21 _ right21 body21 (Tab.cons 10 _ wakes10 body10 (Tab.cons 12 _ div12 body12 (Tab.cons 22 _ list22 body22 (Tab.cons 11 _ doubts11 body11 (Tab.cons 23 _ allowed23 body23 (Tab.cons 24 _ ask24 body24 (Tab.cons 25 _ clash25 body25 (Tab.cons 26 _ ready26 body26 (Tab.cons 13 _ bounds13 body13 (Tab.cons 15 _ ints15 body15 (Tab.nil _))))))))))))
theorem bnd_eq {d x : Dv} (ho : openF d = 0) (hx : openF x = 0) (h : numsF x = numsF d) : bndV x = bndV d := by
  rw [bndV, bndV, if_pos ho, if_pos hx, h]
set_option maxHeartbeats 2000000
theorem law4 : Sound Try.prog 4 id (gsca (args2 duRd booRd fun d _ => rul d) fun _ v => v = .bool true) := by
  refine comp4.gsca tabAi (fun args G s h => ?_) (fun args G x h => ?_)
  · obtain ⟨v, w, rfl, _⟩ := h; simp
  · obtain ⟨d, lob⟩ := x
    obtain ⟨u, v, rfl, ⟨w0, w1, w2, w3, w4, w5, rfl, hd⟩, rfl, hr⟩ := h
    dsimp only at hd hr
    have hdu : DuV G _ d := ⟨_, _, _, _, _, _, rfl, hd⟩
    obtain ⟨x0, y0, z0, rfl, la0⟩ := id hd.a0
    obtain ⟨x1, y1, z1, rfl, la1⟩ := id hd.a1
    obtain ⟨x2, y2, z2, rfl, ln0⟩ := id hd.n0
    obtain ⟨x3, y3, z3, rfl, ln1⟩ := id hd.n1
    obtain ⟨x4, y4, z4, rfl, lps⟩ := id hd.ps
    obtain ⟨x5, y5, z5, rfl, lqs⟩ := id hd.qs
    dsimp only
    (conv => whnf)
    refine ScaP.g (ok1 duRd fun _ => True) (x := d) ⟨_, rfl, hdu, trivial⟩ (fun v hv => W.mk ?_)
    subst hv
    (conv => whnf)
    refine ForkP.mk (fun hfw => W.mk ?_) (fun hfw => W.mk ?_) <;> (conv => whnf)
    rotate_left
    · refine ScaP.g okU (x := ()) rfl (fun v hv => W.mk ?_)
      subst hv
      (conv => whnf)
      refine ForkP.mk (fun _ => W.mk ?_) (fun h => by cases h)
      (conv => whnf)
      exact FinP.mk rfl
    have hdv := hdu.v hfw
    refine ScaP.g (ok1 dvRd fun _ => True) (x := d) ⟨_, rfl, hdv, trivial⟩ (fun v hv => W.mk ?_)
    subst hv
    (conv => whnf)
    refine ForkP.mk (fun hri => W.mk ?_) (fun hri => W.mk ?_) <;> (conv => whnf)
    rotate_left
    · refine ScaP.g okU (x := ()) rfl (fun v hv => W.mk ?_)
      subst hv
      (conv => whnf)
      refine ForkP.mk (fun _ => W.mk ?_) (fun h => by cases h)
      (conv => whnf)
      exact FinP.mk rfl
    have hg0 := Grow.refl G
    have hm40 := right_m hri
    obtain ⟨hl0, hl1, hl2, hl3⟩ := right_lists hri
    have hl0 := list_len hl0
    have hl2 := list_len hl2
    refine RelP.g (ok1 dvRd fun d => fewF d = true) (x := d) ⟨_, rfl, hdv, hfw⟩ (Grow.refl _) (fun v G1 h1 hq => W.mk ?_)
    have hg1 := hg0.trans h1
    obtain ⟨_, _, _, _, _, _, rfl, hq⟩ := hq
    obtain ⟨ex0, ey0, ez0, rfl, e0a, f0a⟩ := id hq.a0
    obtain ⟨ex1, ey1, ez1, rfl, e1a, f1a⟩ := id hq.a1
    obtain ⟨ex2, ey2, ez2, rfl, e2a, f2a⟩ := id hq.n0
    obtain ⟨ex3, ey3, ez3, rfl, e3a, f3a⟩ := id hq.n1
    obtain ⟨ex4, ey4, ez4, rfl, e4a, f4a⟩ := id hq.ps
    obtain ⟨ex5, ey5, ez5, rfl, e5a, f5a⟩ := id hq.qs
    (conv => whnf)
    repeat' (first | (refine OblP.mk ?_ (W.mk ?_); (first | trivial | omega | (simp only [inR]; omega) | exact Nat.le_of_ble_eq_true (by rfl) | exact SlR.some (by assumption) (by omega)); (conv => whnf)) | (first | (refine RdP.at (by assumption) (by rfl) (W.mk ?_); (conv => whnf)) | (refine RdP.sub (by assumption) (by rfl) (W.mk ?_); (conv => whnf)) | (refine RdP.sub2 (by assumption) (by rfl) (W.mk ?_); (conv => whnf)) | (refine RdP.sub3 (by assumption) (by rfl) (W.mk ?_); (conv => whnf))))
    refine EqsP.mk ⟨[.val (.slice x0 y0 z0)], rfl, rfl, W.mk ?_⟩
    (conv => whnf)
    refine RelP.g (ok1 (slRd intE) fun l => l.length ≤ 8796093022207) (x := d.a0) ⟨_, rfl, ⟨_, _, _, rfl, SlR.grow (G := G) (G' := G1) (fun _ _ h => h) la0 hg1, by have := la0.len; omega⟩, by show d.a0.length ≤ _; omega⟩ (Grow.refl _) (fun v G2 h2 hq => W.mk ?_)
    have hg2 := hg1.trans h2
    have q2 := hq
    obtain ⟨s2, m2, c2, rfl, _, _⟩ := hq
    (conv => whnf)
    repeat' (first | (refine OblP.mk ?_ (W.mk ?_); (first | trivial | omega | (simp only [inR]; omega) | exact Nat.le_of_ble_eq_true (by rfl) | exact SlR.some (by assumption) (by omega)); (conv => whnf)) | (first | (refine RdP.at (by assumption) (by rfl) (W.mk ?_); (conv => whnf)) | (refine RdP.sub (by assumption) (by rfl) (W.mk ?_); (conv => whnf)) | (refine RdP.sub2 (by assumption) (by rfl) (W.mk ?_); (conv => whnf)) | (refine RdP.sub3 (by assumption) (by rfl) (W.mk ?_); (conv => whnf))))
    refine EqsP.mk ⟨[.val (.slice x2 y2 z2)], rfl, rfl, W.mk ?_⟩
    (conv => whnf)
    refine RelP.g (ok1 (slRd intE) fun l => l.length ≤ 8796093022207) (x := d.n0) ⟨_, rfl, ⟨_, _, _, rfl, SlR.grow (G := G) (G' := G2) (fun _ _ h => h) ln0 hg2, by have := ln0.len; omega⟩, by show d.n0.length ≤ _; omega⟩ (Grow.refl _) (fun v G3 h3 hq => W.mk ?_)
    have hg3 := hg2.trans h3
    have q3 := hq
    obtain ⟨s3, m3, c3, rfl, _, _⟩ := hq
    (conv => whnf)
    repeat' (first | (refine OblP.mk ?_ (W.mk ?_); (first | trivial | omega | (simp only [inR]; omega) | exact Nat.le_of_ble_eq_true (by rfl) | exact SlR.some (by assumption) (by omega)); (conv => whnf)) | (first | (refine RdP.at (by assumption) (by rfl) (W.mk ?_); (conv => whnf)) | (refine RdP.sub (by assumption) (by rfl) (W.mk ?_); (conv => whnf)) | (refine RdP.sub2 (by assumption) (by rfl) (W.mk ?_); (conv => whnf)) | (refine RdP.sub3 (by assumption) (by rfl) (W.mk ?_); (conv => whnf))))
    have hdo : DvV G3 (.agg #[I d.m, .slice ex0 ey0 ez0, .slice s2 m2 c2, .slice ex2 ey2 ez2, .slice s3 m3 c3, .slice ex4 ey4 ez4, .slice ex5 ey5 ez5, U d.rule, I d.need, I d.quorum, U d.tie]) (oneD d) :=
      ⟨_, _, _, _, _, _, rfl, SlV.grow (h2.trans h3) ⟨_, _, _, rfl, e0a, f0a⟩, q2.grow h3, SlV.grow (h2.trans h3) ⟨_, _, _, rfl, e2a, f2a⟩, q3, SlV.grow (h2.trans h3) ⟨_, _, _, rfl, e4a, f4a⟩, SlV.grow (h2.trans h3) ⟨_, _, _, rfl, e5a, f5a⟩⟩
    refine RelP.g (ok1 dvRd rul) (x := oneD d) ⟨_, rfl, hdo, hr⟩ (Grow.refl _) (fun v G4 h4 hq => W.mk ?_)
    have hg4 := hg3.trans h4
    obtain ⟨w, rfl, aq, nq, cq, rfl, hq4, hqn⟩ := hq
    by_cases hf1 : faultF (oneD d) = 0
    · rw [if_pos hf1, one_doubts] at hq4
      rw [hf1]
      have hql : 0 = nq := hq4.len
      subst hql
      (conv => whnf)
      refine IteP.mk (fun _ => W.mk ?_) (fun h => absurd rfl h)
      (conv => whnf)
      have ho1 := one_open hf1
      refine RelP.g (ok1 dvRd rul) (x := oneD d) ⟨_, rfl, dvRd.grow h4 hdo, hr⟩ (Grow.refl _) (fun v G5 h5 hq => W.mk ?_)
      have hg5 := hg4.trans h5
      obtain ⟨w, rfl, aw, nw, cw, rfl, hq5, hwn⟩ := hq
      rw [if_pos ho1] at hq5
      have hwl := hq5.len
      rw [one_allowed hf1] at hwl
      rw [ho1]
      (conv => whnf)
      refine RelP.g (ok1 dvRd rul) (x := oneD d) ⟨_, rfl, dvRd.grow (h4.trans h5) hdo, hr⟩ (Grow.refl _) (fun v G6 h6 hq => W.mk ?_)
      have hg6 := hg5.trans h6
      obtain ⟨w, rfl, ak, nk, ck, rfl, hq6, hkn⟩ := hq
      rw [if_pos ho1, one_ask] at hq6
      have hkl : 0 = nk := hq6.len
      subst hkl
      rw [ho1]
      (conv => whnf)
      repeat' (refine IteP.mk (fun _ => W.mk ?_) (fun _ => W.mk ?_) <;> first | (exfalso; omega) | (conv => whnf))
      refine ScaP.g (ok1 duRd fun _ => True) (x := d) ⟨_, rfl, duRd.grow hg6 hdu, trivial⟩ (fun v hv => W.mk ?_)
      subst hv
      (conv => whnf)
      refine ForkP.mk (fun hrd => W.mk ?_) (fun hrd => W.mk ?_) <;> (conv => whnf)
      rotate_left
      · refine ScaP.g okU (x := ()) rfl (fun v hv => W.mk ?_)
        subst hv
        (conv => whnf)
        refine ForkP.mk (fun _ => W.mk ?_) (fun h => by cases h)
        (conv => whnf)
        exact FinP.mk rfl
      obtain ⟨_, hop, hfa⟩ := ready_fault hrd
      refine RelP.g (ok1 dvRd fun d => fewF d = true) (x := d) ⟨_, rfl, dvRd.grow hg6 hdv, hfw⟩ (Grow.refl _) (fun v G7 h7 hq => W.mk ?_)
      have hg7 := hg6.trans h7
      obtain ⟨_, _, _, _, _, _, rfl, hq⟩ := hq
      obtain ⟨ex0, ey0, ez0, rfl, e0b, f0b⟩ := id hq.a0
      obtain ⟨ex1, ey1, ez1, rfl, e1b, f1b⟩ := id hq.a1
      obtain ⟨ex2, ey2, ez2, rfl, e2b, f2b⟩ := id hq.n0
      obtain ⟨ex3, ey3, ez3, rfl, e3b, f3b⟩ := id hq.n1
      obtain ⟨ex4, ey4, ez4, rfl, e4b, f4b⟩ := id hq.ps
      obtain ⟨ex5, ey5, ez5, rfl, e5b, f5b⟩ := id hq.qs
      (conv => whnf)
      refine ForkP.mk (fun hlo => W.mk ?_) (fun hlo => W.mk ?_) <;> (conv => whnf)
      · repeat' (first | (refine OblP.mk ?_ (W.mk ?_); (first | trivial | omega | (simp only [inR]; omega) | exact Nat.le_of_ble_eq_true (by rfl) | exact SlR.some (by assumption) (by omega)); (conv => whnf)) | (first | (refine RdP.at (by assumption) (by rfl) (W.mk ?_); (conv => whnf)) | (refine RdP.sub (by assumption) (by rfl) (W.mk ?_); (conv => whnf)) | (refine RdP.sub2 (by assumption) (by rfl) (W.mk ?_); (conv => whnf)) | (refine RdP.sub3 (by assumption) (by rfl) (W.mk ?_); (conv => whnf))))
        refine EqsP.mk ⟨[.val (.slice ex1 ey1 ez1)], rfl, rfl, W.mk ?_⟩
        (conv => whnf)
        repeat' (first | (refine OblP.mk ?_ (W.mk ?_); (first | trivial | omega | (simp only [inR]; omega) | exact Nat.le_of_ble_eq_true (by rfl) | exact SlR.some (by assumption) (by omega)); (conv => whnf)) | (first | (refine RdP.at (by assumption) (by rfl) (W.mk ?_); (conv => whnf)) | (refine RdP.sub (by assumption) (by rfl) (W.mk ?_); (conv => whnf)) | (refine RdP.sub2 (by assumption) (by rfl) (W.mk ?_); (conv => whnf)) | (refine RdP.sub3 (by assumption) (by rfl) (W.mk ?_); (conv => whnf))))
        refine EqsP.mk ⟨[.val (.slice ex0 ey0 ez0)], rfl, rfl, W.mk ?_⟩
        (conv => whnf)
        repeat' (first | (refine OblP.mk ?_ (W.mk ?_); (first | trivial | omega | (simp only [inR]; omega) | exact Nat.le_of_ble_eq_true (by rfl) | exact SlR.some (by assumption) (by omega)); (conv => whnf)) | (first | (refine RdP.at (by assumption) (by rfl) (W.mk ?_); (conv => whnf)) | (refine RdP.sub (by assumption) (by rfl) (W.mk ?_); (conv => whnf)) | (refine RdP.sub2 (by assumption) (by rfl) (W.mk ?_); (conv => whnf)) | (refine RdP.sub3 (by assumption) (by rfl) (W.mk ?_); (conv => whnf))))
        have hdx : DvV G7 (.agg #[I d.m, .slice ex1 ey1 ez1, .slice ex0 ey0 ez0, .slice ex2 ey2 ez2, .slice ex3 ey3 ez3, .slice ex4 ey4 ez4, .slice ex5 ey5 ez5, U d.rule, I d.need, I d.quorum, U d.tie]) (swapA d) :=
          ⟨_, _, _, _, _, _, rfl, ⟨_, _, _, rfl, e1b, f1b⟩, ⟨_, _, _, rfl, e0b, f0b⟩, ⟨_, _, _, rfl, e2b, f2b⟩, ⟨_, _, _, rfl, e3b, f3b⟩, ⟨_, _, _, rfl, e4b, f4b⟩, ⟨_, _, _, rfl, e5b, f5b⟩⟩
        have hsw := swapA_all hop
        have hbe := bnd_eq hop hsw.1 hsw.2.1
        have hrx : rul (swapA d) := hr
        refine RelP.g (ok1 dvRd fun d => fewF d = true) (x := d) ⟨_, rfl, dvRd.grow hg7 hdv, hfw⟩ (Grow.refl _) (fun v G8 h8 hq => W.mk ?_)
        have hg8 := hg7.trans h8
        have hd8 := hq
        obtain ⟨_, _, _, _, _, _, rfl, hq⟩ := hq
        obtain ⟨xx0, yy0, zz0, rfl, _, _⟩ := id hq.a0
        obtain ⟨xx1, yy1, zz1, rfl, _, _⟩ := id hq.a1
        obtain ⟨xx2, yy2, zz2, rfl, _, _⟩ := id hq.n0
        obtain ⟨xx3, yy3, zz3, rfl, _, _⟩ := id hq.n1
        obtain ⟨xx4, yy4, zz4, rfl, _, _⟩ := id hq.ps
        obtain ⟨xx5, yy5, zz5, rfl, _, _⟩ := id hq.qs
        (conv => whnf)
        refine ScaP.g (ok1 dvRd rul) (x := d) ⟨_, rfl, hd8, hr⟩ (fun v hv => W.mk ?_)
        have hbd : bndV d = .tuple #[rngV (bdF Nm2.a (numsF d)), rngV (bdF Nm2.n (numsF d)), I 0] := by rw [bndV, if_pos hop]
        rw [hbd] at hv hbe
        clear hbd
        generalize bdF Nm2.a (numsF d) = ra at hv hbe
        generalize bdF Nm2.n (numsF d) = rn at hv hbe
        obtain ⟨ra1, ra2⟩ := ra
        obtain ⟨rn1, rn2⟩ := rn
        subst hv
        (conv => whnf)
        refine ScaP.g (ok1 dvRd rul) (x := (swapA d)) ⟨_, rfl, dvRd.grow h8 hdx, hrx⟩ (fun v hv => W.mk ?_)
        rw [hbe] at hv
        subst hv
        (conv => whnf)
        refine RelP.g (ok1 dvRd fun d => fewF d = true) (x := d) ⟨_, rfl, dvRd.grow hg8 hdv, hfw⟩ (Grow.refl _) (fun v G9 h9 hq => W.mk ?_)
        have hg9 := hg8.trans h9
        have hd9 := hq
        obtain ⟨_, _, _, _, _, _, rfl, hq⟩ := hq
        obtain ⟨xx0, yy0, zz0, rfl, _, _⟩ := id hq.a0
        obtain ⟨xx1, yy1, zz1, rfl, _, _⟩ := id hq.a1
        obtain ⟨xx2, yy2, zz2, rfl, _, _⟩ := id hq.n0
        obtain ⟨xx3, yy3, zz3, rfl, _, _⟩ := id hq.n1
        obtain ⟨xx4, yy4, zz4, rfl, _, _⟩ := id hq.ps
        obtain ⟨xx5, yy5, zz5, rfl, _, _⟩ := id hq.qs
        (conv => whnf)
        refine RelP.g (ok1 dvRd rul) (x := d) ⟨_, rfl, hd9, hr⟩ (Grow.refl _) (fun v G10 h10 hq => W.mk ?_)
        have hg10 := hg9.trans h10
        obtain ⟨w, rfl, au, nu, cu, rfl, hqu, hun⟩ := hq
        rw [if_pos hop] at hqu
        rw [hop]
        (conv => whnf)
        refine RelP.g (ok1 dvRd rul) (x := (swapA d)) ⟨_, rfl, dvRd.grow (h8.trans (h9.trans h10)) hdx, hrx⟩ (Grow.refl _) (fun v G11 h11 hq => W.mk ?_)
        have hg11 := hg10.trans h11
        obtain ⟨w, rfl, az, nz, cz, rfl, hqz, hzn⟩ := hq
        rw [if_pos hsw.1, hsw.2.2] at hqz
        rw [hsw.1]
        (conv => whnf)
        repeat' (refine IteP.mk (fun _ => W.mk ?_) (fun _ => W.mk ?_) <;> first | (exfalso; omega) | (conv => whnf))
        refine PurP.of (.bool true) (fun w => by rw [eq39]; simp) (W.mk ?_)
        (conv => whnf)
        refine ForkP.mk (fun _ => W.mk ?_) (fun h => by cases h)
        (conv => whnf)
        repeat' (first | (refine IteP.mk (fun _ => W.mk ?_) (fun _ => W.mk ?_) <;> first | (exfalso; omega) | (conv => whnf)) | (refine OblP.mk ?_ (W.mk ?_); (first | trivial | omega | (simp only [inR]; omega) | exact Nat.le_of_ble_eq_true (by rfl) | exact SlR.some (by assumption) (by omega)); (conv => whnf)))
        refine PurP.of (.bool true) (fun w => by rw [eq39]; simp) (W.mk ?_)
        (conv => whnf)
        refine ForkP.mk (fun _ => W.mk ?_) (fun h => by cases h)
        (conv => whnf)
        repeat' (first | (refine IteP.mk (fun _ => W.mk ?_) (fun _ => W.mk ?_) <;> first | (exfalso; omega) | (conv => whnf)) | (refine OblP.mk ?_ (W.mk ?_); (first | trivial | omega | (simp only [inR]; omega) | exact Nat.le_of_ble_eq_true (by rfl) | exact SlR.some (by assumption) (by omega)); (conv => whnf)))
        refine ScaP.g (ok2 (slRd intE) (slRd intE) fun _ _ => True) (x := (askF d, askF d)) ⟨_, _, rfl, SlV.grow h11 ⟨_, _, _, rfl, hqu, hun⟩, ⟨_, _, _, rfl, hqz, hzn⟩, trivial⟩ (fun v hv => W.mk ?_)
        have hv := hv.trans (congrArg Value.bool (decide_eq_true rfl))
        subst hv
        (conv => whnf)
        refine ForkP.mk (fun _ => W.mk ?_) (fun h => by cases h)
        (conv => whnf)
        refine ScaP.g okU (x := ()) rfl (fun v hv => W.mk ?_)
        subst hv
        (conv => whnf)
        refine ForkP.mk (fun _ => W.mk ?_) (fun h => by cases h)
        (conv => whnf)
        exact FinP.mk rfl
      · repeat' (first | (refine OblP.mk ?_ (W.mk ?_); (first | trivial | omega | (simp only [inR]; omega) | exact Nat.le_of_ble_eq_true (by rfl) | exact SlR.some (by assumption) (by omega)); (conv => whnf)) | (first | (refine RdP.at (by assumption) (by rfl) (W.mk ?_); (conv => whnf)) | (refine RdP.sub (by assumption) (by rfl) (W.mk ?_); (conv => whnf)) | (refine RdP.sub2 (by assumption) (by rfl) (W.mk ?_); (conv => whnf)) | (refine RdP.sub3 (by assumption) (by rfl) (W.mk ?_); (conv => whnf))))
        refine EqsP.mk ⟨[.val (.slice ex3 ey3 ez3)], rfl, rfl, W.mk ?_⟩
        (conv => whnf)
        repeat' (first | (refine OblP.mk ?_ (W.mk ?_); (first | trivial | omega | (simp only [inR]; omega) | exact Nat.le_of_ble_eq_true (by rfl) | exact SlR.some (by assumption) (by omega)); (conv => whnf)) | (first | (refine RdP.at (by assumption) (by rfl) (W.mk ?_); (conv => whnf)) | (refine RdP.sub (by assumption) (by rfl) (W.mk ?_); (conv => whnf)) | (refine RdP.sub2 (by assumption) (by rfl) (W.mk ?_); (conv => whnf)) | (refine RdP.sub3 (by assumption) (by rfl) (W.mk ?_); (conv => whnf))))
        refine EqsP.mk ⟨[.val (.slice ex2 ey2 ez2)], rfl, rfl, W.mk ?_⟩
        (conv => whnf)
        repeat' (first | (refine OblP.mk ?_ (W.mk ?_); (first | trivial | omega | (simp only [inR]; omega) | exact Nat.le_of_ble_eq_true (by rfl) | exact SlR.some (by assumption) (by omega)); (conv => whnf)) | (first | (refine RdP.at (by assumption) (by rfl) (W.mk ?_); (conv => whnf)) | (refine RdP.sub (by assumption) (by rfl) (W.mk ?_); (conv => whnf)) | (refine RdP.sub2 (by assumption) (by rfl) (W.mk ?_); (conv => whnf)) | (refine RdP.sub3 (by assumption) (by rfl) (W.mk ?_); (conv => whnf))))
        have hdx : DvV G7 (.agg #[I d.m, .slice ex0 ey0 ez0, .slice ex1 ey1 ez1, .slice ex3 ey3 ez3, .slice ex2 ey2 ez2, .slice ex4 ey4 ez4, .slice ex5 ey5 ez5, U d.rule, I d.need, I d.quorum, U d.tie]) (swapN d) :=
          ⟨_, _, _, _, _, _, rfl, ⟨_, _, _, rfl, e0b, f0b⟩, ⟨_, _, _, rfl, e1b, f1b⟩, ⟨_, _, _, rfl, e3b, f3b⟩, ⟨_, _, _, rfl, e2b, f2b⟩, ⟨_, _, _, rfl, e4b, f4b⟩, ⟨_, _, _, rfl, e5b, f5b⟩⟩
        have hsw := swapN_all hop
        have hbe := bnd_eq hop hsw.1 hsw.2.1
        have hrx : rul (swapN d) := hr
        refine RelP.g (ok1 dvRd fun d => fewF d = true) (x := d) ⟨_, rfl, dvRd.grow hg7 hdv, hfw⟩ (Grow.refl _) (fun v G8 h8 hq => W.mk ?_)
        have hg8 := hg7.trans h8
        have hd8 := hq
        obtain ⟨_, _, _, _, _, _, rfl, hq⟩ := hq
        obtain ⟨xx0, yy0, zz0, rfl, _, _⟩ := id hq.a0
        obtain ⟨xx1, yy1, zz1, rfl, _, _⟩ := id hq.a1
        obtain ⟨xx2, yy2, zz2, rfl, _, _⟩ := id hq.n0
        obtain ⟨xx3, yy3, zz3, rfl, _, _⟩ := id hq.n1
        obtain ⟨xx4, yy4, zz4, rfl, _, _⟩ := id hq.ps
        obtain ⟨xx5, yy5, zz5, rfl, _, _⟩ := id hq.qs
        (conv => whnf)
        refine ScaP.g (ok1 dvRd rul) (x := d) ⟨_, rfl, hd8, hr⟩ (fun v hv => W.mk ?_)
        have hbd : bndV d = .tuple #[rngV (bdF Nm2.a (numsF d)), rngV (bdF Nm2.n (numsF d)), I 0] := by rw [bndV, if_pos hop]
        rw [hbd] at hv hbe
        clear hbd
        generalize bdF Nm2.a (numsF d) = ra at hv hbe
        generalize bdF Nm2.n (numsF d) = rn at hv hbe
        obtain ⟨ra1, ra2⟩ := ra
        obtain ⟨rn1, rn2⟩ := rn
        subst hv
        (conv => whnf)
        refine ScaP.g (ok1 dvRd rul) (x := (swapN d)) ⟨_, rfl, dvRd.grow h8 hdx, hrx⟩ (fun v hv => W.mk ?_)
        rw [hbe] at hv
        subst hv
        (conv => whnf)
        refine RelP.g (ok1 dvRd fun d => fewF d = true) (x := d) ⟨_, rfl, dvRd.grow hg8 hdv, hfw⟩ (Grow.refl _) (fun v G9 h9 hq => W.mk ?_)
        have hg9 := hg8.trans h9
        have hd9 := hq
        obtain ⟨_, _, _, _, _, _, rfl, hq⟩ := hq
        obtain ⟨xx0, yy0, zz0, rfl, _, _⟩ := id hq.a0
        obtain ⟨xx1, yy1, zz1, rfl, _, _⟩ := id hq.a1
        obtain ⟨xx2, yy2, zz2, rfl, _, _⟩ := id hq.n0
        obtain ⟨xx3, yy3, zz3, rfl, _, _⟩ := id hq.n1
        obtain ⟨xx4, yy4, zz4, rfl, _, _⟩ := id hq.ps
        obtain ⟨xx5, yy5, zz5, rfl, _, _⟩ := id hq.qs
        (conv => whnf)
        refine RelP.g (ok1 dvRd rul) (x := d) ⟨_, rfl, hd9, hr⟩ (Grow.refl _) (fun v G10 h10 hq => W.mk ?_)
        have hg10 := hg9.trans h10
        obtain ⟨w, rfl, au, nu, cu, rfl, hqu, hun⟩ := hq
        rw [if_pos hop] at hqu
        rw [hop]
        (conv => whnf)
        refine RelP.g (ok1 dvRd rul) (x := (swapN d)) ⟨_, rfl, dvRd.grow (h8.trans (h9.trans h10)) hdx, hrx⟩ (Grow.refl _) (fun v G11 h11 hq => W.mk ?_)
        have hg11 := hg10.trans h11
        obtain ⟨w, rfl, az, nz, cz, rfl, hqz, hzn⟩ := hq
        rw [if_pos hsw.1, hsw.2.2] at hqz
        rw [hsw.1]
        (conv => whnf)
        repeat' (refine IteP.mk (fun _ => W.mk ?_) (fun _ => W.mk ?_) <;> first | (exfalso; omega) | (conv => whnf))
        refine PurP.of (.bool true) (fun w => by rw [eq39]; simp) (W.mk ?_)
        (conv => whnf)
        refine ForkP.mk (fun _ => W.mk ?_) (fun h => by cases h)
        (conv => whnf)
        repeat' (first | (refine IteP.mk (fun _ => W.mk ?_) (fun _ => W.mk ?_) <;> first | (exfalso; omega) | (conv => whnf)) | (refine OblP.mk ?_ (W.mk ?_); (first | trivial | omega | (simp only [inR]; omega) | exact Nat.le_of_ble_eq_true (by rfl) | exact SlR.some (by assumption) (by omega)); (conv => whnf)))
        refine PurP.of (.bool true) (fun w => by rw [eq39]; simp) (W.mk ?_)
        (conv => whnf)
        refine ForkP.mk (fun _ => W.mk ?_) (fun h => by cases h)
        (conv => whnf)
        repeat' (first | (refine IteP.mk (fun _ => W.mk ?_) (fun _ => W.mk ?_) <;> first | (exfalso; omega) | (conv => whnf)) | (refine OblP.mk ?_ (W.mk ?_); (first | trivial | omega | (simp only [inR]; omega) | exact Nat.le_of_ble_eq_true (by rfl) | exact SlR.some (by assumption) (by omega)); (conv => whnf)))
        refine ScaP.g (ok2 (slRd intE) (slRd intE) fun _ _ => True) (x := (askF d, askF d)) ⟨_, _, rfl, SlV.grow h11 ⟨_, _, _, rfl, hqu, hun⟩, ⟨_, _, _, rfl, hqz, hzn⟩, trivial⟩ (fun v hv => W.mk ?_)
        have hv := hv.trans (congrArg Value.bool (decide_eq_true rfl))
        subst hv
        (conv => whnf)
        refine ForkP.mk (fun _ => W.mk ?_) (fun h => by cases h)
        (conv => whnf)
        refine ScaP.g okU (x := ()) rfl (fun v hv => W.mk ?_)
        subst hv
        (conv => whnf)
        refine ForkP.mk (fun _ => W.mk ?_) (fun h => by cases h)
        (conv => whnf)
        exact FinP.mk rfl
    · obtain ⟨hc9, hcl⟩ := one_clash hri hf1
      rw [hc9]
      (conv => whnf)
      repeat' (refine IteP.mk (fun _ => W.mk ?_) (fun _ => W.mk ?_) <;> first | (exfalso; omega) | (conv => whnf))
      refine ScaP.g (ok1 dvRd rul) (x := oneD d) ⟨_, rfl, dvRd.grow h4 hdo, hr⟩ (fun v hv => W.mk ?_)
      rw [if_pos (one_right hri), if_pos hcl] at hv
      subst hv
      (conv => whnf)
      repeat' (refine IteP.mk (fun _ => W.mk ?_) (fun _ => W.mk ?_) <;> first | (exfalso; omega) | (conv => whnf))
      refine ScaP.g (ok1 duRd fun _ => True) (x := d) ⟨_, rfl, duRd.grow hg4 hdu, trivial⟩ (fun v hv => W.mk ?_)
      subst hv
      (conv => whnf)
      refine ForkP.mk (fun hrd => W.mk ?_) (fun hrd => W.mk ?_) <;> (conv => whnf)
      rotate_left
      · refine ScaP.g okU (x := ()) rfl (fun v hv => W.mk ?_)
        subst hv
        (conv => whnf)
        refine ForkP.mk (fun _ => W.mk ?_) (fun h => by cases h)
        (conv => whnf)
        exact FinP.mk rfl
      obtain ⟨_, hop, hfa⟩ := ready_fault hrd
      refine RelP.g (ok1 dvRd fun d => fewF d = true) (x := d) ⟨_, rfl, dvRd.grow hg4 hdv, hfw⟩ (Grow.refl _) (fun v G5 h5 hq => W.mk ?_)
      have hg5 := hg4.trans h5
      obtain ⟨_, _, _, _, _, _, rfl, hq⟩ := hq
      obtain ⟨ex0, ey0, ez0, rfl, e0b, f0b⟩ := id hq.a0
      obtain ⟨ex1, ey1, ez1, rfl, e1b, f1b⟩ := id hq.a1
      obtain ⟨ex2, ey2, ez2, rfl, e2b, f2b⟩ := id hq.n0
      obtain ⟨ex3, ey3, ez3, rfl, e3b, f3b⟩ := id hq.n1
      obtain ⟨ex4, ey4, ez4, rfl, e4b, f4b⟩ := id hq.ps
      obtain ⟨ex5, ey5, ez5, rfl, e5b, f5b⟩ := id hq.qs
      (conv => whnf)
      refine ForkP.mk (fun hlo => W.mk ?_) (fun hlo => W.mk ?_) <;> (conv => whnf)
      · repeat' (first | (refine OblP.mk ?_ (W.mk ?_); (first | trivial | omega | (simp only [inR]; omega) | exact Nat.le_of_ble_eq_true (by rfl) | exact SlR.some (by assumption) (by omega)); (conv => whnf)) | (first | (refine RdP.at (by assumption) (by rfl) (W.mk ?_); (conv => whnf)) | (refine RdP.sub (by assumption) (by rfl) (W.mk ?_); (conv => whnf)) | (refine RdP.sub2 (by assumption) (by rfl) (W.mk ?_); (conv => whnf)) | (refine RdP.sub3 (by assumption) (by rfl) (W.mk ?_); (conv => whnf))))
        refine EqsP.mk ⟨[.val (.slice ex1 ey1 ez1)], rfl, rfl, W.mk ?_⟩
        (conv => whnf)
        repeat' (first | (refine OblP.mk ?_ (W.mk ?_); (first | trivial | omega | (simp only [inR]; omega) | exact Nat.le_of_ble_eq_true (by rfl) | exact SlR.some (by assumption) (by omega)); (conv => whnf)) | (first | (refine RdP.at (by assumption) (by rfl) (W.mk ?_); (conv => whnf)) | (refine RdP.sub (by assumption) (by rfl) (W.mk ?_); (conv => whnf)) | (refine RdP.sub2 (by assumption) (by rfl) (W.mk ?_); (conv => whnf)) | (refine RdP.sub3 (by assumption) (by rfl) (W.mk ?_); (conv => whnf))))
        refine EqsP.mk ⟨[.val (.slice ex0 ey0 ez0)], rfl, rfl, W.mk ?_⟩
        (conv => whnf)
        repeat' (first | (refine OblP.mk ?_ (W.mk ?_); (first | trivial | omega | (simp only [inR]; omega) | exact Nat.le_of_ble_eq_true (by rfl) | exact SlR.some (by assumption) (by omega)); (conv => whnf)) | (first | (refine RdP.at (by assumption) (by rfl) (W.mk ?_); (conv => whnf)) | (refine RdP.sub (by assumption) (by rfl) (W.mk ?_); (conv => whnf)) | (refine RdP.sub2 (by assumption) (by rfl) (W.mk ?_); (conv => whnf)) | (refine RdP.sub3 (by assumption) (by rfl) (W.mk ?_); (conv => whnf))))
        have hdx : DvV G5 (.agg #[I d.m, .slice ex1 ey1 ez1, .slice ex0 ey0 ez0, .slice ex2 ey2 ez2, .slice ex3 ey3 ez3, .slice ex4 ey4 ez4, .slice ex5 ey5 ez5, U d.rule, I d.need, I d.quorum, U d.tie]) (swapA d) :=
          ⟨_, _, _, _, _, _, rfl, ⟨_, _, _, rfl, e1b, f1b⟩, ⟨_, _, _, rfl, e0b, f0b⟩, ⟨_, _, _, rfl, e2b, f2b⟩, ⟨_, _, _, rfl, e3b, f3b⟩, ⟨_, _, _, rfl, e4b, f4b⟩, ⟨_, _, _, rfl, e5b, f5b⟩⟩
        have hsw := swapA_all hop
        have hbe := bnd_eq hop hsw.1 hsw.2.1
        have hrx : rul (swapA d) := hr
        refine RelP.g (ok1 dvRd fun d => fewF d = true) (x := d) ⟨_, rfl, dvRd.grow hg5 hdv, hfw⟩ (Grow.refl _) (fun v G6 h6 hq => W.mk ?_)
        have hg6 := hg5.trans h6
        have hd6 := hq
        obtain ⟨_, _, _, _, _, _, rfl, hq⟩ := hq
        obtain ⟨xx0, yy0, zz0, rfl, _, _⟩ := id hq.a0
        obtain ⟨xx1, yy1, zz1, rfl, _, _⟩ := id hq.a1
        obtain ⟨xx2, yy2, zz2, rfl, _, _⟩ := id hq.n0
        obtain ⟨xx3, yy3, zz3, rfl, _, _⟩ := id hq.n1
        obtain ⟨xx4, yy4, zz4, rfl, _, _⟩ := id hq.ps
        obtain ⟨xx5, yy5, zz5, rfl, _, _⟩ := id hq.qs
        (conv => whnf)
        refine ScaP.g (ok1 dvRd rul) (x := d) ⟨_, rfl, hd6, hr⟩ (fun v hv => W.mk ?_)
        have hbd : bndV d = .tuple #[rngV (bdF Nm2.a (numsF d)), rngV (bdF Nm2.n (numsF d)), I 0] := by rw [bndV, if_pos hop]
        rw [hbd] at hv hbe
        clear hbd
        generalize bdF Nm2.a (numsF d) = ra at hv hbe
        generalize bdF Nm2.n (numsF d) = rn at hv hbe
        obtain ⟨ra1, ra2⟩ := ra
        obtain ⟨rn1, rn2⟩ := rn
        subst hv
        (conv => whnf)
        refine ScaP.g (ok1 dvRd rul) (x := (swapA d)) ⟨_, rfl, dvRd.grow h6 hdx, hrx⟩ (fun v hv => W.mk ?_)
        rw [hbe] at hv
        subst hv
        (conv => whnf)
        refine RelP.g (ok1 dvRd fun d => fewF d = true) (x := d) ⟨_, rfl, dvRd.grow hg6 hdv, hfw⟩ (Grow.refl _) (fun v G7 h7 hq => W.mk ?_)
        have hg7 := hg6.trans h7
        have hd7 := hq
        obtain ⟨_, _, _, _, _, _, rfl, hq⟩ := hq
        obtain ⟨xx0, yy0, zz0, rfl, _, _⟩ := id hq.a0
        obtain ⟨xx1, yy1, zz1, rfl, _, _⟩ := id hq.a1
        obtain ⟨xx2, yy2, zz2, rfl, _, _⟩ := id hq.n0
        obtain ⟨xx3, yy3, zz3, rfl, _, _⟩ := id hq.n1
        obtain ⟨xx4, yy4, zz4, rfl, _, _⟩ := id hq.ps
        obtain ⟨xx5, yy5, zz5, rfl, _, _⟩ := id hq.qs
        (conv => whnf)
        refine RelP.g (ok1 dvRd rul) (x := d) ⟨_, rfl, hd7, hr⟩ (Grow.refl _) (fun v G8 h8 hq => W.mk ?_)
        have hg8 := hg7.trans h8
        obtain ⟨w, rfl, au, nu, cu, rfl, hqu, hun⟩ := hq
        rw [if_pos hop] at hqu
        rw [hop]
        (conv => whnf)
        refine RelP.g (ok1 dvRd rul) (x := (swapA d)) ⟨_, rfl, dvRd.grow (h6.trans (h7.trans h8)) hdx, hrx⟩ (Grow.refl _) (fun v G9 h9 hq => W.mk ?_)
        have hg9 := hg8.trans h9
        obtain ⟨w, rfl, az, nz, cz, rfl, hqz, hzn⟩ := hq
        rw [if_pos hsw.1, hsw.2.2] at hqz
        rw [hsw.1]
        (conv => whnf)
        repeat' (refine IteP.mk (fun _ => W.mk ?_) (fun _ => W.mk ?_) <;> first | (exfalso; omega) | (conv => whnf))
        refine PurP.of (.bool true) (fun w => by rw [eq39]; simp) (W.mk ?_)
        (conv => whnf)
        refine ForkP.mk (fun _ => W.mk ?_) (fun h => by cases h)
        (conv => whnf)
        repeat' (first | (refine IteP.mk (fun _ => W.mk ?_) (fun _ => W.mk ?_) <;> first | (exfalso; omega) | (conv => whnf)) | (refine OblP.mk ?_ (W.mk ?_); (first | trivial | omega | (simp only [inR]; omega) | exact Nat.le_of_ble_eq_true (by rfl) | exact SlR.some (by assumption) (by omega)); (conv => whnf)))
        refine PurP.of (.bool true) (fun w => by rw [eq39]; simp) (W.mk ?_)
        (conv => whnf)
        refine ForkP.mk (fun _ => W.mk ?_) (fun h => by cases h)
        (conv => whnf)
        repeat' (first | (refine IteP.mk (fun _ => W.mk ?_) (fun _ => W.mk ?_) <;> first | (exfalso; omega) | (conv => whnf)) | (refine OblP.mk ?_ (W.mk ?_); (first | trivial | omega | (simp only [inR]; omega) | exact Nat.le_of_ble_eq_true (by rfl) | exact SlR.some (by assumption) (by omega)); (conv => whnf)))
        refine ScaP.g (ok2 (slRd intE) (slRd intE) fun _ _ => True) (x := (askF d, askF d)) ⟨_, _, rfl, SlV.grow h9 ⟨_, _, _, rfl, hqu, hun⟩, ⟨_, _, _, rfl, hqz, hzn⟩, trivial⟩ (fun v hv => W.mk ?_)
        have hv := hv.trans (congrArg Value.bool (decide_eq_true rfl))
        subst hv
        (conv => whnf)
        refine ForkP.mk (fun _ => W.mk ?_) (fun h => by cases h)
        (conv => whnf)
        refine ScaP.g okU (x := ()) rfl (fun v hv => W.mk ?_)
        subst hv
        (conv => whnf)
        refine ForkP.mk (fun _ => W.mk ?_) (fun h => by cases h)
        (conv => whnf)
        exact FinP.mk rfl
      · repeat' (first | (refine OblP.mk ?_ (W.mk ?_); (first | trivial | omega | (simp only [inR]; omega) | exact Nat.le_of_ble_eq_true (by rfl) | exact SlR.some (by assumption) (by omega)); (conv => whnf)) | (first | (refine RdP.at (by assumption) (by rfl) (W.mk ?_); (conv => whnf)) | (refine RdP.sub (by assumption) (by rfl) (W.mk ?_); (conv => whnf)) | (refine RdP.sub2 (by assumption) (by rfl) (W.mk ?_); (conv => whnf)) | (refine RdP.sub3 (by assumption) (by rfl) (W.mk ?_); (conv => whnf))))
        refine EqsP.mk ⟨[.val (.slice ex3 ey3 ez3)], rfl, rfl, W.mk ?_⟩
        (conv => whnf)
        repeat' (first | (refine OblP.mk ?_ (W.mk ?_); (first | trivial | omega | (simp only [inR]; omega) | exact Nat.le_of_ble_eq_true (by rfl) | exact SlR.some (by assumption) (by omega)); (conv => whnf)) | (first | (refine RdP.at (by assumption) (by rfl) (W.mk ?_); (conv => whnf)) | (refine RdP.sub (by assumption) (by rfl) (W.mk ?_); (conv => whnf)) | (refine RdP.sub2 (by assumption) (by rfl) (W.mk ?_); (conv => whnf)) | (refine RdP.sub3 (by assumption) (by rfl) (W.mk ?_); (conv => whnf))))
        refine EqsP.mk ⟨[.val (.slice ex2 ey2 ez2)], rfl, rfl, W.mk ?_⟩
        (conv => whnf)
        repeat' (first | (refine OblP.mk ?_ (W.mk ?_); (first | trivial | omega | (simp only [inR]; omega) | exact Nat.le_of_ble_eq_true (by rfl) | exact SlR.some (by assumption) (by omega)); (conv => whnf)) | (first | (refine RdP.at (by assumption) (by rfl) (W.mk ?_); (conv => whnf)) | (refine RdP.sub (by assumption) (by rfl) (W.mk ?_); (conv => whnf)) | (refine RdP.sub2 (by assumption) (by rfl) (W.mk ?_); (conv => whnf)) | (refine RdP.sub3 (by assumption) (by rfl) (W.mk ?_); (conv => whnf))))
        have hdx : DvV G5 (.agg #[I d.m, .slice ex0 ey0 ez0, .slice ex1 ey1 ez1, .slice ex3 ey3 ez3, .slice ex2 ey2 ez2, .slice ex4 ey4 ez4, .slice ex5 ey5 ez5, U d.rule, I d.need, I d.quorum, U d.tie]) (swapN d) :=
          ⟨_, _, _, _, _, _, rfl, ⟨_, _, _, rfl, e0b, f0b⟩, ⟨_, _, _, rfl, e1b, f1b⟩, ⟨_, _, _, rfl, e3b, f3b⟩, ⟨_, _, _, rfl, e2b, f2b⟩, ⟨_, _, _, rfl, e4b, f4b⟩, ⟨_, _, _, rfl, e5b, f5b⟩⟩
        have hsw := swapN_all hop
        have hbe := bnd_eq hop hsw.1 hsw.2.1
        have hrx : rul (swapN d) := hr
        refine RelP.g (ok1 dvRd fun d => fewF d = true) (x := d) ⟨_, rfl, dvRd.grow hg5 hdv, hfw⟩ (Grow.refl _) (fun v G6 h6 hq => W.mk ?_)
        have hg6 := hg5.trans h6
        have hd6 := hq
        obtain ⟨_, _, _, _, _, _, rfl, hq⟩ := hq
        obtain ⟨xx0, yy0, zz0, rfl, _, _⟩ := id hq.a0
        obtain ⟨xx1, yy1, zz1, rfl, _, _⟩ := id hq.a1
        obtain ⟨xx2, yy2, zz2, rfl, _, _⟩ := id hq.n0
        obtain ⟨xx3, yy3, zz3, rfl, _, _⟩ := id hq.n1
        obtain ⟨xx4, yy4, zz4, rfl, _, _⟩ := id hq.ps
        obtain ⟨xx5, yy5, zz5, rfl, _, _⟩ := id hq.qs
        (conv => whnf)
        refine ScaP.g (ok1 dvRd rul) (x := d) ⟨_, rfl, hd6, hr⟩ (fun v hv => W.mk ?_)
        have hbd : bndV d = .tuple #[rngV (bdF Nm2.a (numsF d)), rngV (bdF Nm2.n (numsF d)), I 0] := by rw [bndV, if_pos hop]
        rw [hbd] at hv hbe
        clear hbd
        generalize bdF Nm2.a (numsF d) = ra at hv hbe
        generalize bdF Nm2.n (numsF d) = rn at hv hbe
        obtain ⟨ra1, ra2⟩ := ra
        obtain ⟨rn1, rn2⟩ := rn
        subst hv
        (conv => whnf)
        refine ScaP.g (ok1 dvRd rul) (x := (swapN d)) ⟨_, rfl, dvRd.grow h6 hdx, hrx⟩ (fun v hv => W.mk ?_)
        rw [hbe] at hv
        subst hv
        (conv => whnf)
        refine RelP.g (ok1 dvRd fun d => fewF d = true) (x := d) ⟨_, rfl, dvRd.grow hg6 hdv, hfw⟩ (Grow.refl _) (fun v G7 h7 hq => W.mk ?_)
        have hg7 := hg6.trans h7
        have hd7 := hq
        obtain ⟨_, _, _, _, _, _, rfl, hq⟩ := hq
        obtain ⟨xx0, yy0, zz0, rfl, _, _⟩ := id hq.a0
        obtain ⟨xx1, yy1, zz1, rfl, _, _⟩ := id hq.a1
        obtain ⟨xx2, yy2, zz2, rfl, _, _⟩ := id hq.n0
        obtain ⟨xx3, yy3, zz3, rfl, _, _⟩ := id hq.n1
        obtain ⟨xx4, yy4, zz4, rfl, _, _⟩ := id hq.ps
        obtain ⟨xx5, yy5, zz5, rfl, _, _⟩ := id hq.qs
        (conv => whnf)
        refine RelP.g (ok1 dvRd rul) (x := d) ⟨_, rfl, hd7, hr⟩ (Grow.refl _) (fun v G8 h8 hq => W.mk ?_)
        have hg8 := hg7.trans h8
        obtain ⟨w, rfl, au, nu, cu, rfl, hqu, hun⟩ := hq
        rw [if_pos hop] at hqu
        rw [hop]
        (conv => whnf)
        refine RelP.g (ok1 dvRd rul) (x := (swapN d)) ⟨_, rfl, dvRd.grow (h6.trans (h7.trans h8)) hdx, hrx⟩ (Grow.refl _) (fun v G9 h9 hq => W.mk ?_)
        have hg9 := hg8.trans h9
        obtain ⟨w, rfl, az, nz, cz, rfl, hqz, hzn⟩ := hq
        rw [if_pos hsw.1, hsw.2.2] at hqz
        rw [hsw.1]
        (conv => whnf)
        repeat' (refine IteP.mk (fun _ => W.mk ?_) (fun _ => W.mk ?_) <;> first | (exfalso; omega) | (conv => whnf))
        refine PurP.of (.bool true) (fun w => by rw [eq39]; simp) (W.mk ?_)
        (conv => whnf)
        refine ForkP.mk (fun _ => W.mk ?_) (fun h => by cases h)
        (conv => whnf)
        repeat' (first | (refine IteP.mk (fun _ => W.mk ?_) (fun _ => W.mk ?_) <;> first | (exfalso; omega) | (conv => whnf)) | (refine OblP.mk ?_ (W.mk ?_); (first | trivial | omega | (simp only [inR]; omega) | exact Nat.le_of_ble_eq_true (by rfl) | exact SlR.some (by assumption) (by omega)); (conv => whnf)))
        refine PurP.of (.bool true) (fun w => by rw [eq39]; simp) (W.mk ?_)
        (conv => whnf)
        refine ForkP.mk (fun _ => W.mk ?_) (fun h => by cases h)
        (conv => whnf)
        repeat' (first | (refine IteP.mk (fun _ => W.mk ?_) (fun _ => W.mk ?_) <;> first | (exfalso; omega) | (conv => whnf)) | (refine OblP.mk ?_ (W.mk ?_); (first | trivial | omega | (simp only [inR]; omega) | exact Nat.le_of_ble_eq_true (by rfl) | exact SlR.some (by assumption) (by omega)); (conv => whnf)))
        refine ScaP.g (ok2 (slRd intE) (slRd intE) fun _ _ => True) (x := (askF d, askF d)) ⟨_, _, rfl, SlV.grow h9 ⟨_, _, _, rfl, hqu, hun⟩, ⟨_, _, _, rfl, hqz, hzn⟩, trivial⟩ (fun v hv => W.mk ?_)
        have hv := hv.trans (congrArg Value.bool (decide_eq_true rfl))
        subst hv
        (conv => whnf)
        refine ForkP.mk (fun _ => W.mk ?_) (fun h => by cases h)
        (conv => whnf)
        refine ScaP.g okU (x := ()) rfl (fun v hv => W.mk ?_)
        subst hv
        (conv => whnf)
        refine ForkP.mk (fun _ => W.mk ?_) (fun h => by cases h)
        (conv => whnf)
        exact FinP.mk rfl
end Go.Proofs.Ytgpfejgohclheaa

namespace Go.Proofs.Ytgpfejgohclheaa
open Go.Pal Go.ChangeShapes
theorem bool_val {G : Hp} {v : Value} (h : ∃ x, VR cdBool false G v x) : ∃ b, booRd.R G v b := by
  obtain ⟨x, e⟩ := h
  have e : [v] = [Value.bool x] := e
  exact ⟨x, (List.cons.inj e).1⟩
end Go.Proofs.Ytgpfejgohclheaa
