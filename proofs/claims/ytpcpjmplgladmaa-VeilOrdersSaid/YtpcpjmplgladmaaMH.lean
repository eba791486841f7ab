/- Layer 9: a reader before a report. Layer 9: the pieces of a view, one after the other. Layer 9: the view, and the word of a piece. Layer 9: the columns of the heads, found one by one. Layer 9: the index. -/
import Derived.Test.YtpcpjmplgladmaaMG
import Derived.Test.YtpcpjmplgladmaaMC
set_option linter.unusedSimpArgs false
set_option linter.unusedVariables false
namespace Go.Proofs.Ytpcpjmplgladmaa
open Go.Pal
set_option maxRecDepth 100000
structure Fine (r : Rp) : Prop where
  wl : r.words.length ≤ 60
  ol : r.orders.length ≤ 12
  o : ∀ o ∈ r.orders, 0 ≤ o.f ∧ o.f < o.t ∧ o.t ≤ r.words.length ∧ 0 ≤ o.k ∧ o.k ≤ 7 ∧ 0 ≤ o.u ∧ o.u ≤ 9999
  w : ∀ w ∈ r.words, w.heads.length ≤ 5 ∧ 1 ≤ w.text.size ∧ w.text.size ≤ 20 ∧ risM 99 w.heads = true ∧ badT w.text = false
  c : 1 ≤ r.cols ∧ r.cols ≤ 20
theorem fine_of {r : Rp} (h : faultR r = 0) : Fine r := by
  unfold faultR at h
  split at h
  · cases h
  rename_i h1
  split at h
  · cases h
  rename_i h2
  split at h
  · cases h
  rename_i h3
  simp only [Bool.or_eq_true, not_or, Bool.not_eq_true, List.any_eq_false, Bool.not_eq_true', inF, decide_eq_false_iff_not, Decidable.not_not] at h2 h3
  obtain ⟨⟨h3, h4⟩, h5⟩ := h3
  refine ⟨by omega, by omega, fun o ho => ?_, fun w hw => ?_, h5⟩
  · have := h4 o ho
    simp only [badO, inF, Bool.or_eq_false_iff, Bool.not_eq_false', decide_eq_true_eq] at this
    omega
  · have h6 := h3 w hw
    have h7 := h2 w hw
    simp only [badW, inF, Bool.or_eq_false_iff, Bool.not_eq_false', decide_eq_true_eq] at h6
    simp only [longW, decide_eq_false_iff_not] at h7
    exact ⟨by omega, by omega, by omega, h6.1.2, h6.2⟩
def faultX (r : Rp) (x : Rx) : Int := if faultR r = 0 then (if rightX x then 0 else 2) else faultR r
theorem faultX_fine {r : Rp} {x : Rx} (h : faultX r x = 0) : Fine r ∧ rightX x = true := by
  unfold faultX at h
  split at h
  · rename_i h1
    refine ⟨fine_of h1, ?_⟩
    cases hr : rightX x with
    | true => rfl
    | false => rw [hr] at h; simp at h
  · rename_i h1; exact absurd h h1
def pK (x : Rx) (os : List Od) : Nat → Bool := fun j => os.any (hidO x j)
theorem pK_hi {x : Rx} {os : List Od} (h : ∀ o ∈ os, o.t ≤ 60) (i : Nat) (hi : 60 ≤ i) : pK x os i = false := by
  simp only [pK, List.any_eq_false]
  intro o ho
  have := h o ho
  simp only [hidO, inF, Bool.and_eq_true, decide_eq_true_eq]
  omega
theorem pK_take {x : Rx} {os : List Od} {i : Nat} (h : i < os.length) : pK x (os.take (i + 1)) = if holdsF os[i] x then hideF (pK x (os.take i)) os[i] else pK x (os.take i) := by
  have e : os.take (i + 1) = os.take i ++ [os[i]] := by simp
  rw [e]
  funext j
  simp only [pK, List.any_append, List.any_cons, List.any_nil, Bool.or_false, hidO]
  cases hh : holdsF os[i] x with
  | true =>
    simp only [if_true, hideF, Bool.true_and]
    congr 1
    rw [Bool.eq_iff_iff]
    simp only [inF, Bool.and_eq_true, decide_eq_true_eq]
    omega
  | false => simp [pK]
def rgOf (r : Rp) (x : Rx) : Rg := ⟨r, x, fun i => hidF r x i⟩
abbrev vl0 : List Value := rgl (.slice none 0 0) (.slice none 0 0) (.slice none 0 0) 0 0 (fun _ => false)
def readQ (p : Rp × Rx) (v : Value) (G : Hp) : Prop := ∃ wa wn wc oa on oc ma mn mc c y h, v = .tuple #[.agg (rgl (.slice wa wn wc) (.slice oa on oc) (.slice ma mn mc) c y h).toArray, I (faultX p.1 p.2)] ∧ (faultX p.1 p.2 = 0 → c = p.1.cols ∧ y = p.2.year ∧ h = (rgOf p.1 p.2).p ∧ RgC G (.slice wa wn wc) (.slice oa on oc) (.slice ma mn mc) (rgOf p.1 p.2))
def nmOB (nm : Option Nat) (vs : List Value) : OB := match nm with
  | none => .cells .anon (vs.map .val) 97
  | some b => .cells (.named b) (vs.map S1.of) 97
theorem read44 : Sound Try.prog 44 id (grel (args2 rpRd rxRd fun _ _ => True) readQ) := by
  refine comp44.grel (Tab.cons 30 _ check30 body30 (Tab.cons 55 _ year55 body55 (Tab.cons 67 _ rising67 body67 (Tab.cons 68 _ holds68 body68 (Tab.nil _))))) (ok2 _ _ _) (fun args G s h => ?_) (fun x v G G' hg h => ?_) (fun args G p h => ?_)
  · obtain ⟨v, w, rfl, _⟩ := h; simp
  · obtain ⟨_, _, _, _, _, _, _, _, _, c, y, q, e, h⟩ := h
    exact ⟨_, _, _, _, _, _, _, _, _, c, y, q, e, fun he => ⟨(h he).1, (h he).2.1, (h he).2.2.1, (h he).2.2.2.grow hg⟩⟩
  · obtain ⟨r, x⟩ := p
    obtain ⟨u, v, rfl, ⟨rw_, ro, rfl, hrc⟩, ⟨m, rfl, hm⟩, _⟩ := h
    dsimp only at hrc hm
    obtain ⟨oa, on, oc, rfl, ho1, ho2⟩ := id hrc.o
    obtain ⟨wa, wn, wc, rfl, hw1, hw2⟩ := id hrc.w
    obtain ⟨ma, mn, mc, rfl, hm1, hm2⟩ := id hm
    have hwn := hw1.len
    have hon := ho1.len
    dsimp only
    (conv => whnf)
    refine ScaP.g (ok1 rpRd fun _ => True) (x := r) ⟨_, rfl, ⟨_, _, rfl, hrc⟩, trivial⟩ (fun v hv => W.mk ?_)
    subst hv
    (conv => whnf)
    refine IteP.mk (fun h1 => W.mk ?_) (fun h1 => W.mk ?_) <;> (conv => whnf)
    rotate_left
    · have h1 : ¬ faultR r = 0 := h1
      refine FinP.mk ⟨_, _, _, _, _, _, _, _, _, 0, 0, fun _ => false, (by show Value.tuple #[_, I (faultR r)] = .tuple #[_, I (faultX r x)]; rw [faultX, if_neg h1]; rfl), fun h => ?_⟩
      simp only [faultX, if_neg h1] at h
      exact absurd h h1
    have h1 : faultR r = 0 := h1
    have fr := fine_of h1
    have hfx : faultX r x = if rightX x then 0 else 2 := by rw [faultX, if_pos h1]
    have hrx : rightX x = (inF x.year 0 9999 && risM 7 x.may) := rfl
    refine ScaP.g (ok1 intRd fun _ => True) (x := x.year) ⟨_, rfl, rfl, trivial⟩ (fun v hv => W.mk ?_)
    subst hv
    (conv => whnf)
    refine ForkP.mk (fun h2 => W.mk ?_) (fun h2 => W.mk ?_) <;> (conv => whnf)
    rotate_left
    · have h2 : inF x.year 0 9999 = false := h2
      have hf2 : faultX r x = 2 := by rw [hfx, hrx, h2]; rfl
      refine FinP.mk ⟨_, _, _, _, _, _, _, _, _, 0, 0, fun _ => false, (by show Value.tuple #[_, I 2] = .tuple #[_, I (faultX r x)]; rw [hf2]; rfl), fun h => ?_⟩
      dsimp only at h
      rw [hf2] at h; cases h
    have h2 : inF x.year 0 9999 = true := h2
    refine ScaP.g (ok2 (slRd intE) intRd fun _ _ => True) (x := (x.may, 7)) ⟨_, _, rfl, hm, rfl, trivial⟩ (fun v hv => W.mk ?_)
    subst hv
    dsimp only
    (conv => whnf)
    refine ForkP.mk (fun h3 => W.mk ?_) (fun h3 => W.mk ?_) <;> (conv => whnf)
    rotate_left
    · have h3 : risM 7 x.may = false := h3
      have hf2 : faultX r x = 2 := by rw [hfx, hrx, h2, h3]; rfl
      refine FinP.mk ⟨_, _, _, _, _, _, _, _, _, 0, 0, fun _ => false, (by show Value.tuple #[_, I 2] = .tuple #[_, I (faultX r x)]; rw [hf2]; rfl), fun h => ?_⟩
      dsimp only at h
      rw [hf2] at h; cases h
    have h3 : risM 7 x.may = true := h3
    have hf0 : faultX r x = 0 := by rw [hfx, hrx, h2, h3]; rfl
    refine LoopP.of { α := Nat × Option Nat × (Nat → Bool), fr := fun y => [(4, .c (.ptr 2 0)), (7, .c (.ptr 30 0)), (32, .v (.slice oa on oc)), (33, .v (I on)), (34, .v (I y.1))], H := fun y => [(2, .cells .anon (vl0.map .val) 97), (30, nmOB y.2.1 (rgl (.slice wa wn wc) (.slice oa on oc) (.slice ma mn mc) r.cols x.year y.2.2))], ok := fun y _ => y.1 ≤ on ∧ y.2.2 = pK x (r.orders.take y.1), m := fun y => on - y.1 }
      (0, none, fun _ => false) (HeadP.of [] ⟨rfl, rfl, rfl, rfl, rfl, trivial⟩ ⟨rfl, rfl, trivial⟩) ⟨Nat.zero_le _, rfl⟩ (fun y => ⟨rfl, (by obtain ⟨i, nm, q⟩ := y; cases nm <;> rfl)⟩) (fun y G1 hg1 hx => W.mk ?_)
    obtain ⟨i, nm, q⟩ := y
    obtain ⟨hi, hqe⟩ := hx
    dsimp only at hi hqe
    dsimp only
    cases nm with
    | none =>
      (conv => whnf)
      refine IteP.mk (fun hlt => W.mk ?_) (fun hge => W.mk ?_) <;> (conv => whnf)
      · have hlt : i < r.orders.length := by omega
        have hc := (SlR.grow (G := G) (G' := G1) (fun _ _ h => h) ho1 hg1).el hlt
        have htk := pK_take (x := x) hlt
        rw [← hqe] at htk
        have hb := fr.o _ (List.getElem_mem hlt)
        have hwl := fr.wl
        generalize r.orders[i] = o at hc htk hb
        have hc : CellsAt G1 (ab oa) (ao oa + i * 4) [I o.f, I o.t, I o.k, I o.u] := hc
        repeat' (first | (refine OblP.mk ?_ (W.mk ?_); (first | trivial | omega | (simp only [inR]; omega) | exact Nat.le_of_ble_eq_true (by rfl) | exact SlR.some (by assumption) (by omega)); (conv => whnf)) | (first | (refine RdP.at (by assumption) (by rfl) (W.mk ?_); (conv => whnf)) | (refine RdP.sub (by assumption) (by rfl) (W.mk ?_); (conv => whnf)) | (refine RdP.sub2 (by assumption) (by rfl) (W.mk ?_); (conv => whnf)) | (refine RdP.sub3 (by assumption) (by rfl) (W.mk ?_); (conv => whnf))))
        refine ScaP.g (ok2 rgRd odRd fun _ _ => True) (x := (⟨r, x, q⟩, o)) ⟨_, _, rfl, ⟨_, _, _, rfl, hrc.grow hg1, hm.grow hg1, hqe ▸ pK_hi fun o ho => (by have := fr.o o (List.mem_of_mem_take ho); omega)⟩, rfl, trivial⟩ (fun v hv => W.mk ?_)
        subst hv
        dsimp only
        (conv => whnf)
        refine ForkP.mk (fun hq => W.mk ?_) (fun hq => W.mk ?_) <;> (conv => whnf)
        · refine NameP.mk (fun b => W.mk ?_)
          (conv => whnf)
          refine CallN.mk ⟨_, hide69 (.slice wa wn wc) (.slice oa on oc) (I r.cols) (I x.year) (.slice ma mn mc) 97 b q o hb.1 (by omega) (by omega), body69, W.mk ?_⟩
          (conv => whnf)
          refine StP.mk ⟨[(30, ⟨b, true, .cells (rgl (.slice wa wn wc) (.slice oa on oc) (.slice ma mn mc) r.cols x.year q) 97⟩)], ⟨⟨_, rfl, rfl⟩, trivial⟩, (by show ([30] : List Nat).Nodup; decide), ⟨rfl, rfl⟩, fun v ns G3 hg3 hpost => W.mk ?_⟩
          obtain ⟨rfl, rfl⟩ := hpost
          have hq : holdsF o x = true := hq
          rw [if_pos hq] at htk
          (conv => whnf)
          (refine OblP.mk ?_ (W.mk ?_); (first | trivial | omega | (simp only [inR]; omega) | exact Nat.le_of_ble_eq_true (by rfl) | exact SlR.some (by assumption) (by omega)); (conv => whnf))
          refine RoundP.of (i + 1, some b, hideF q o) (HeadP.of [] ⟨rfl, rfl, rfl, rfl, rfl, trivial⟩ ⟨rfl, rfl, trivial⟩) ⟨by show i + 1 ≤ on; omega, htk.symm⟩ (by simp only; omega)
        · have hq : holdsF o x = false := hq
          rw [if_neg (by rw [hq]; simp)] at htk
          (refine OblP.mk ?_ (W.mk ?_); (first | trivial | omega | (simp only [inR]; omega) | exact Nat.le_of_ble_eq_true (by rfl) | exact SlR.some (by assumption) (by omega)); (conv => whnf))
          refine RoundP.of (i + 1, none, q) (HeadP.of [] ⟨rfl, rfl, rfl, rfl, rfl, trivial⟩ ⟨rfl, rfl, trivial⟩) ⟨by show i + 1 ≤ on; omega, htk.symm⟩ (by simp only; omega)
      · have hie : i = r.orders.length := by omega
        subst hie
        rw [List.take_length] at hqe
        subst hqe
        refine FinP.mk ⟨_, _, _, _, _, _, _, _, _, _, _, pK x r.orders, (by show Value.tuple #[_, I 0] = .tuple #[_, I (faultX r x)]; rw [hf0]; rfl), fun _ => ⟨rfl, rfl, rfl, hrc.grow hg1, hm.grow hg1, fun i hi => pK_hi (fun o ho => (by have := fr.o o ho; have := fr.wl; omega)) i hi⟩⟩
    | some b =>
      (conv => whnf)
      refine IteP.mk (fun hlt => W.mk ?_) (fun hge => W.mk ?_) <;> (conv => whnf)
      · have hlt : i < r.orders.length := by omega
        have hc := (SlR.grow (G := G) (G' := G1) (fun _ _ h => h) ho1 hg1).el hlt
        have htk := pK_take (x := x) hlt
        rw [← hqe] at htk
        have hb := fr.o _ (List.getElem_mem hlt)
        have hwl := fr.wl
        generalize r.orders[i] = o at hc htk hb
        have hc : CellsAt G1 (ab oa) (ao oa + i * 4) [I o.f, I o.t, I o.k, I o.u] := hc
        repeat' (first | (refine OblP.mk ?_ (W.mk ?_); (first | trivial | omega | (simp only [inR]; omega) | exact Nat.le_of_ble_eq_true (by rfl) | exact SlR.some (by assumption) (by omega)); (conv => whnf)) | (first | (refine RdP.at (by assumption) (by rfl) (W.mk ?_); (conv => whnf)) | (refine RdP.sub (by assumption) (by rfl) (W.mk ?_); (conv => whnf)) | (refine RdP.sub2 (by assumption) (by rfl) (W.mk ?_); (conv => whnf)) | (refine RdP.sub3 (by assumption) (by rfl) (W.mk ?_); (conv => whnf))))
        refine ScaP.g (ok2 rgRd odRd fun _ _ => True) (x := (⟨r, x, q⟩, o)) ⟨_, _, rfl, ⟨_, _, _, rfl, hrc.grow hg1, hm.grow hg1, hqe ▸ pK_hi fun o ho => (by have := fr.o o (List.mem_of_mem_take ho); omega)⟩, rfl, trivial⟩ (fun v hv => W.mk ?_)
        subst hv
        dsimp only
        (conv => whnf)
        refine ForkP.mk (fun hq => W.mk ?_) (fun hq => W.mk ?_) <;> (conv => whnf)
        · (conv => whnf)
          refine CallN.mk ⟨_, hide69 (.slice wa wn wc) (.slice oa on oc) (I r.cols) (I x.year) (.slice ma mn mc) 97 b q o hb.1 (by omega) (by omega), body69, W.mk ?_⟩
          (conv => whnf)
          refine StP.mk ⟨[(30, ⟨b, true, .cells (rgl (.slice wa wn wc) (.slice oa on oc) (.slice ma mn mc) r.cols x.year q) 97⟩)], ⟨⟨_, rfl, rfl⟩, trivial⟩, (by show ([30] : List Nat).Nodup; decide), ⟨rfl, rfl⟩, fun v ns G3 hg3 hpost => W.mk ?_⟩
          obtain ⟨rfl, rfl⟩ := hpost
          have hq : holdsF o x = true := hq
          rw [if_pos hq] at htk
          (conv => whnf)
          (refine OblP.mk ?_ (W.mk ?_); (first | trivial | omega | (simp only [inR]; omega) | exact Nat.le_of_ble_eq_true (by rfl) | exact SlR.some (by assumption) (by omega)); (conv => whnf))
          refine RoundP.of (i + 1, some b, hideF q o) (HeadP.of [] ⟨rfl, rfl, rfl, rfl, rfl, trivial⟩ ⟨rfl, rfl, trivial⟩) ⟨by show i + 1 ≤ on; omega, htk.symm⟩ (by simp only; omega)
        · have hq : holdsF o x = false := hq
          rw [if_neg (by rw [hq]; simp)] at htk
          (refine OblP.mk ?_ (W.mk ?_); (first | trivial | omega | (simp only [inR]; omega) | exact Nat.le_of_ble_eq_true (by rfl) | exact SlR.some (by assumption) (by omega)); (conv => whnf))
          refine RoundP.of (i + 1, some b, q) (HeadP.of [] ⟨rfl, rfl, rfl, rfl, rfl, trivial⟩ ⟨rfl, rfl, trivial⟩) ⟨by show i + 1 ≤ on; omega, htk.symm⟩ (by simp only; omega)
      · have hie : i = r.orders.length := by omega
        subst hie
        rw [List.take_length] at hqe
        subst hqe
        refine FinP.mk ⟨_, _, _, _, _, _, _, _, _, _, _, pK x r.orders, (by show Value.tuple #[_, I 0] = .tuple #[_, I (faultX r x)]; rw [hf0]; rfl), fun _ => ⟨rfl, rfl, rfl, hrc.grow hg1, hm.grow hg1, fun i hi => pK_hi (fun o ho => (by have := fr.o o ho; have := fr.wl; omega)) i hi⟩⟩
end Go.Proofs.Ytpcpjmplgladmaa

namespace Go.Proofs.Ytpcpjmplgladmaa
open Go.Pal
set_option maxRecDepth 100000
structure Pc where
  text : ByteArray
  col : Int
abbrev noText : ByteArray := ⟨#[]⟩
/-- The pieces of the words below one: the word, or -1; what is shown. -/
def pcK (g : Rg) : Nat → List (Int × Pc)
  | 0 => []
  | i + 1 => if g.p i then (if 0 < i ∧ g.p (i - 1) = true then pcK g i else pcK g i ++ [(-1, ⟨noText, (pcK g i).length / g.r.cols + 1⟩)]) else pcK g i ++ [((i : Int), ⟨(g.r.words.getD i ⟨noText, []⟩).text, (pcK g i).length / g.r.cols + 1⟩)]
theorem pcK_step (g : Rg) (i : Nat) : ∃ t, pcK g (i + 1) = pcK g i ++ t := by
  simp only [pcK]
  split
  · split
    · exact ⟨[], by simp⟩
    · exact ⟨_, rfl⟩
  · exact ⟨_, rfl⟩
theorem pcK_pre (g : Rg) {i j : Nat} (h : i ≤ j) : ∃ t, pcK g j = pcK g i ++ t := by
  induction j with
  | zero => exact ⟨[], by rw [show i = 0 by omega]; simp⟩
  | succ j ih =>
    by_cases he : i = j + 1
    · exact ⟨[], by rw [he]; simp⟩
    · obtain ⟨t, ht⟩ := ih (by omega)
      obtain ⟨u, hu⟩ := pcK_step g j
      exact ⟨t ++ u, by rw [hu, ht, List.append_assoc]⟩
theorem pcK_len (g : Rg) : ∀ i, (pcK g i).length ≤ i
  | 0 => by simp [pcK]
  | i + 1 => by
    have := pcK_len g i
    simp only [pcK]
    split
    · split
      · omega
      · simp; omega
    · simp; omega
def pcV (e : Int × Pc) : List Value := [I e.1, .agg #[.string e.2.text, I e.2.col]]
def pcF (g : Rg) : List (Int × Pc) := pcK g g.r.words.length
/-- A captured reading. -/
def RgB (G : Hp) (b : Nat) (g : Rg) : Prop := ∃ w o m, CellsAt G b 0 (rgl w o m g.r.cols g.x.year g.p) ∧ RgC G w o m g
theorem RgB.grow {G G' : Hp} {b : Nat} {g : Rg} (hg : Grow G G') (h : RgB G b g) : RgB G' b g := let ⟨w, o, m, h1, h2⟩ := h; ⟨w, o, m, h1.grow hg, h2.grow hg⟩
structure RgFine (g : Rg) : Prop where
  wl : g.r.words.length ≤ 60
  c : 1 ≤ g.r.cols ∧ g.r.cols ≤ 20
def pcS (b : Nat) (g : Rg) : PSpec := .seq (fun l args G Ys => args = [.func (.yield l) #[] #[]] ∧ RgB G b g ∧ RgFine g ∧ Ys = (pcF g).map pcV) (fun _ _ => True)
theorem rg_at {G : Hp} {b : Nat} {w o m : Value} {c y : Int} {p : Nat → Bool} (h : CellsAt G b 0 (rgl w o m c y p)) {i : Nat} (hi : i < 60) : CellsAt G b (0 + 5 + (i : Int).toNat * 1) [.bool (p i)] := by
  intro j v hj
  have hlt := (List.getElem?_eq_some_iff.1 hj).1
  have : j = 0 := by simp at hlt; omega
  subst this
  have := h (5 + i) v (by rw [List.getElem?_append_right (by simp)]; simpa [vll_get hi] using hj)
  simpa using this
theorem pieces70 (b : Nat) (g : Rg) : Sound Try.prog 70 (fun args => (#[] : Array Value).toList ++ args ++ (#[.pointer (some ⟨b, 0, none⟩)] : Array Value).toList) (pcS b g) := by
  refine comp70.seq (Tab.nil _) (fun l args G Ys h => ?_) (fun l Y k args G Ys h hseg => ?_)
  · obtain ⟨rfl, _⟩ := h; simp
  · obtain ⟨rfl, ⟨w, o, m, hc, hgc⟩, hf, rfl⟩ := h
    obtain ⟨wa, wn, wc, rfl, hw1, hw2⟩ := id hgc.rp.w
    have hwn := hw1.len
    have hwl := hf.wl
    have hcl := hf.c
    (conv => whnf)
    repeat' (first | (refine OblP.mk ?_ (W.mk ?_); (first | trivial | omega | (simp only [inR]; omega) | exact Nat.le_of_ble_eq_true (by rfl) | exact SlR.some (by assumption) (by omega)); (conv => whnf)) | (first | (refine RdP.at (by assumption) (by rfl) (W.mk ?_); (conv => whnf)) | (refine RdP.sub (by assumption) (by rfl) (W.mk ?_); (conv => whnf)) | (refine RdP.sub2 (by assumption) (by rfl) (W.mk ?_); (conv => whnf)) | (refine RdP.sub3 (by assumption) (by rfl) (W.mk ?_); (conv => whnf))))
    refine LoopP.of { α := Nat × Nat, fr := fun y => [(0, .v (.func (.yield l) #[] #[])), (1, .v (.pointer (some ⟨b, 0, none⟩))), (3, .v (I y.2)), (10, .v (.slice wa wn wc)), (11, .v (I wn)), (12, .v (I y.1)), (POS, .c (.pos (k + y.2) false))], H := fun _ => [], ok := fun y _ => y.1 ≤ wn ∧ y.2 = (pcK g y.1).length, m := fun y => wn - y.1 }
      (0, 0) (HeadP.of [] ⟨rfl, rfl, rfl, rfl, rfl, rfl, rfl, trivial⟩ trivial) ⟨Nat.zero_le _, rfl⟩ (fun _ => ⟨rfl, rfl⟩) (fun y G1 hg1 hx => W.mk ?_)
    obtain ⟨i, n⟩ := y
    obtain ⟨hi, hn0⟩ := hx
    dsimp only at hi hn0
    dsimp only
    (conv => whnf)
    refine IteP.mk (fun hlt => W.mk ?_) (fun hge => W.mk ?_) <;> (conv => whnf)
    · have hlt : i < g.r.words.length := by omega
      have hw3 : SlR 2 WdR G1 wa wn wc g.r.words := SlR.grow (fun _ _ h => h.grow hg1) hw1 hg1
      obtain ⟨cs, _, hcs, hv, rfl, ha, hn, hcc, rfl, hh1, hh2⟩ := SlR.cells hw3 hlt
      have hc1 := hc.grow hg1
      have hpi := rg_at hc1 (show i < 60 by omega)
      have hlen := pcK_len g i
      rw [← hn0] at hlen
      have hcol : inR .i64 ((n : Int) / g.r.cols) := by
        have h1 := Int.ediv_nonneg (show (0 : Int) ≤ n by omega) (show 0 ≤ g.r.cols by omega)
        have h2 : (n : Int) / g.r.cols ≤ n := Int.ediv_le_self _ (by omega)
        simp only [inR]; omega
      have hcol1 : inR .i64 ((n : Int) / g.r.cols + 1) := by
        have h1 := Int.ediv_nonneg (show (0 : Int) ≤ n by omega) (show 0 ≤ g.r.cols by omega)
        have h2 : (n : Int) / g.r.cols ≤ n := Int.ediv_le_self _ (by omega)
        simp only [inR]; omega
      have hsu : pcK g (i + 1) = if g.p i then (if 0 < i ∧ g.p (i - 1) = true then pcK g i else pcK g i ++ [(-1, ⟨noText, (pcK g i).length / g.r.cols + 1⟩)]) else pcK g i ++ [((i : Int), ⟨g.r.words[i].text, (pcK g i).length / g.r.cols + 1⟩)] := by
        simp only [pcK, List.getD_eq_getElem?_getD, List.getElem?_eq_getElem hlt, Option.getD_some]
      rw [← hn0] at hsu
      generalize g.r.words[i].text = tx at hsu hcs
      repeat' (first | (refine OblP.mk ?_ (W.mk ?_); (first | trivial | omega | (simp only [inR]; omega) | exact Nat.le_of_ble_eq_true (by rfl) | exact SlR.some (by assumption) (by omega)); (conv => whnf)) | (first | (refine RdP.at (by assumption) (by rfl) (W.mk ?_); (conv => whnf)) | (refine RdP.sub (by assumption) (by rfl) (W.mk ?_); (conv => whnf)) | (refine RdP.sub2 (by assumption) (by rfl) (W.mk ?_); (conv => whnf)) | (refine RdP.sub3 (by assumption) (by rfl) (W.mk ?_); (conv => whnf))) | (refine OblP.mk ⟨by omega, by omega, by simp only [inR]; omega⟩ (W.mk ?_); (conv => whnf)) | (refine OblP.mk hcol1 (W.mk ?_); (conv => whnf)))
      refine ForkP.mk (fun hq => W.mk ?_) (fun hq => W.mk ?_) <;> (conv => whnf)
      · rw [if_pos hq] at hsu
        refine IteP.mk (fun h0 => W.mk ?_) (fun h0 => W.mk ?_) <;> (conv => whnf)
        · have h0 : 0 < i := by have h0 : (i : Int) > 0 := h0; omega
          have hpj := rg_at hc1 (show i - 1 < 60 by omega)
          rw [show ((i - 1 : Nat) : Int) = (i : Int) - 1 by omega] at hpj
          repeat' (first | (refine OblP.mk ?_ (W.mk ?_); (first | trivial | omega | (simp only [inR]; omega) | exact Nat.le_of_ble_eq_true (by rfl) | exact SlR.some (by assumption) (by omega)); (conv => whnf)) | (first | (refine RdP.at (by assumption) (by rfl) (W.mk ?_); (conv => whnf)) | (refine RdP.sub (by assumption) (by rfl) (W.mk ?_); (conv => whnf)) | (refine RdP.sub2 (by assumption) (by rfl) (W.mk ?_); (conv => whnf)) | (refine RdP.sub3 (by assumption) (by rfl) (W.mk ?_); (conv => whnf))))
          refine ForkP.mk (fun hq2 => W.mk ?_) (fun hq2 => W.mk ?_) <;> (conv => whnf)
          · rw [if_pos ⟨h0, hq2⟩] at hsu
            (refine OblP.mk ?_ (W.mk ?_); (first | trivial | omega | (simp only [inR]; omega) | exact Nat.le_of_ble_eq_true (by rfl) | exact SlR.some (by assumption) (by omega)); (conv => whnf))
            exact RoundP.of (i + 1, n) (HeadP.of [] ⟨rfl, rfl, rfl, rfl, rfl, rfl, rfl, trivial⟩ trivial) ⟨by show i + 1 ≤ wn; omega, by show n = _; rw [hsu, hn0]⟩ (by simp only; omega)
          · rw [if_neg (by rw [hq2]; simp)] at hsu
            refine CallvP.yl rfl (W.mk ?_)
            (conv => whnf)
            refine YieldP.mk ?_ (fun G2 hg2 => W.mk ?_) (fun G2 hg2 => W.mk ?_)
            · obtain ⟨t, ht⟩ := pcK_pre g (show i + 1 ≤ g.r.words.length by omega)
              have hN : pcF g = pcK g i ++ [(-1, ⟨noText, n / g.r.cols + 1⟩)] ++ t := by rw [← hsu]; exact ht
              rw [hn0, seg_get hseg (by rw [List.length_map, hN]; simp), List.getElem?_map, hN, List.append_assoc, List.getElem?_append_right (Nat.le_refl _)]
              simp [pcV, hn0]
            · (conv => whnf)
              repeat' (first | (refine OblP.mk ?_ (W.mk ?_); (first | trivial | omega | (simp only [inR]; omega) | exact Nat.le_of_ble_eq_true (by rfl) | exact SlR.some (by assumption) (by omega)); (conv => whnf)) | (first | (refine RdP.at (by assumption) (by rfl) (W.mk ?_); (conv => whnf)) | (refine RdP.sub (by assumption) (by rfl) (W.mk ?_); (conv => whnf)) | (refine RdP.sub2 (by assumption) (by rfl) (W.mk ?_); (conv => whnf)) | (refine RdP.sub3 (by assumption) (by rfl) (W.mk ?_); (conv => whnf))))
              exact RoundP.of (i + 1, n + 1) (HeadP.of [] ⟨rfl, rfl, rfl, rfl, rfl, rfl, rfl, trivial⟩ trivial) ⟨by show i + 1 ≤ wn; omega, by show n + 1 = _; rw [hsu]; simp [hn0]⟩ (by simp only; omega)
            · (conv => whnf)
              refine FinP.mk ⟨trivial, fun h => by cases h⟩
        · have h0 : ¬ 0 < i := by have h0 : ¬ (i : Int) > 0 := h0; omega
          rw [if_neg (fun h => h0 h.1)] at hsu
          refine CallvP.yl rfl (W.mk ?_)
          (conv => whnf)
          refine YieldP.mk ?_ (fun G2 hg2 => W.mk ?_) (fun G2 hg2 => W.mk ?_)
          · obtain ⟨t, ht⟩ := pcK_pre g (show i + 1 ≤ g.r.words.length by omega)
            have hN : pcF g = pcK g i ++ [(-1, ⟨noText, n / g.r.cols + 1⟩)] ++ t := by rw [← hsu]; exact ht
            rw [hn0, seg_get hseg (by rw [List.length_map, hN]; simp), List.getElem?_map, hN, List.append_assoc, List.getElem?_append_right (Nat.le_refl _)]
            simp [pcV, hn0]
          · (conv => whnf)
            repeat' (first | (refine OblP.mk ?_ (W.mk ?_); (first | trivial | omega | (simp only [inR]; omega) | exact Nat.le_of_ble_eq_true (by rfl) | exact SlR.some (by assumption) (by omega)); (conv => whnf)) | (first | (refine RdP.at (by assumption) (by rfl) (W.mk ?_); (conv => whnf)) | (refine RdP.sub (by assumption) (by rfl) (W.mk ?_); (conv => whnf)) | (refine RdP.sub2 (by assumption) (by rfl) (W.mk ?_); (conv => whnf)) | (refine RdP.sub3 (by assumption) (by rfl) (W.mk ?_); (conv => whnf))))
            exact RoundP.of (i + 1, n + 1) (HeadP.of [] ⟨rfl, rfl, rfl, rfl, rfl, rfl, rfl, trivial⟩ trivial) ⟨by show i + 1 ≤ wn; omega, by show n + 1 = _; rw [hsu]; simp [hn0]⟩ (by simp only; omega)
          · (conv => whnf)
            refine FinP.mk ⟨trivial, fun h => by cases h⟩
      · rw [if_neg (by rw [hq]; simp)] at hsu
        refine CallvP.yl rfl (W.mk ?_)
        (conv => whnf)
        refine YieldP.mk ?_ (fun G2 hg2 => W.mk ?_) (fun G2 hg2 => W.mk ?_)
        · obtain ⟨t, ht⟩ := pcK_pre g (show i + 1 ≤ g.r.words.length by omega)
          have hN : pcF g = pcK g i ++ [((i : Int), ⟨tx, n / g.r.cols + 1⟩)] ++ t := by rw [← hsu]; exact ht
          rw [hn0, seg_get hseg (by rw [List.length_map, hN]; simp), List.getElem?_map, hN, List.append_assoc, List.getElem?_append_right (Nat.le_refl _)]
          simp [pcV, hn0]
        · (conv => whnf)
          repeat' (first | (refine OblP.mk ?_ (W.mk ?_); (first | trivial | omega | (simp only [inR]; omega) | exact Nat.le_of_ble_eq_true (by rfl) | exact SlR.some (by assumption) (by omega)); (conv => whnf)) | (first | (refine RdP.at (by assumption) (by rfl) (W.mk ?_); (conv => whnf)) | (refine RdP.sub (by assumption) (by rfl) (W.mk ?_); (conv => whnf)) | (refine RdP.sub2 (by assumption) (by rfl) (W.mk ?_); (conv => whnf)) | (refine RdP.sub3 (by assumption) (by rfl) (W.mk ?_); (conv => whnf))))
          exact RoundP.of (i + 1, n + 1) (HeadP.of [] ⟨rfl, rfl, rfl, rfl, rfl, rfl, rfl, trivial⟩ trivial) ⟨by show i + 1 ≤ wn; omega, by show n + 1 = _; rw [hsu]; simp [hn0]⟩ (by simp only; omega)
        · (conv => whnf)
          refine FinP.mk ⟨trivial, fun h => by cases h⟩
    · have : i = g.r.words.length := by omega
      subst this
      refine FinP.mk ⟨trivial, fun _ => ?_⟩
      rw [List.length_map, hn0]; rfl
def PcsV (G : Hp) (v : Value) (g : Rg) : Prop := ∃ b, v = .func (.func 70) #[] #[.pointer (some ⟨b, 0, none⟩)] ∧ RgB G b g
theorem pieces45 : Sound Try.prog 45 id (grel (args1 rgRd fun _ => True) fun g v G => PcsV G v g) := by
  refine comp45.grel (Tab.nil _) (ok1 _ _) (fun args G s h => ?_) (fun x v G G' hg ⟨b, h1, h2⟩ => ⟨b, h1, h2.grow hg⟩) (fun args G g h => ?_)
  · obtain ⟨v, rfl, _⟩ := h; simp
  · obtain ⟨v, rfl, ⟨w, o, m, rfl, hc⟩, _⟩ := h
    obtain ⟨x0, y0, z0, rfl, lws, yws⟩ := id hc.rp.w
    obtain ⟨x1, y1, z1, rfl, los, yos⟩ := id hc.rp.o
    obtain ⟨x2, y2, z2, rfl, lms, yms⟩ := id hc.may
    (conv => whnf)
    refine NameP.mk (fun b => W.mk ?_)
    (conv => whnf)
    refine PubAnyP.mk ⟨[0], ?_⟩
    (conv => whnf)
    intro G' hg _ hcs
    refine W.mk ?_
    (conv => whnf)
    refine FinP.mk ⟨b, rfl, _, _, _, hcs, hc.grow hg⟩
end Go.Proofs.Ytpcpjmplgladmaa

namespace Go.Proofs.Ytpcpjmplgladmaa
open Go.Pal
set_option maxRecDepth 100000
def pcE : El Pc := ⟨2, fun p => [.string p.text, I p.col], fun {x y} h => by cases x; cases y; simp at h; simp [h], fun _ => rfl, fun _ v hv => by simp at hv; rcases hv with rfl | rfl <;> rfl⟩
def tabR : Tab Try.prog := Tab.cons 44 _ read44 body44 (Tab.cons 45 _ pieces45 body45 (Tab.nil _))
theorem rgFine {r : Rp} {x : Rx} (h : faultX r x = 0) : RgFine (rgOf r x) := ⟨(faultX_fine h).1.wl, (faultX_fine h).1.c⟩
theorem take_snoc {α : Type} {l : List α} {i : Nat} {e : α} (h : l[i]? = some e) : l.take (i + 1) = l.take i ++ [e] := by
  obtain ⟨h1, h2⟩ := List.getElem?_eq_some_iff.1 h
  rw [← h2]; simp
def lookF (r : Rp) (x : Rx) : List Pc := (pcF (rgOf r x)).map (·.2)
theorem pcF_len (g : Rg) : (pcF g).length ≤ g.r.words.length := pcK_len g _
theorem look28 : Sound Try.prog 28 id (grel (args2 rpRd rxRd fun _ _ => True) fun p v G => ∃ w, v = .tuple #[w, I (faultX p.1 p.2)] ∧ SlV pcE G w (if faultX p.1 p.2 = 0 then lookF p.1 p.2 else [])) := by
  refine comp28.grel tabR (ok2 _ _ _) (fun args G s h => ?_) (fun x v G G' hg ⟨w, h1, h2⟩ => ⟨w, h1, h2.grow hg⟩) (fun args G p h => ?_)
  · obtain ⟨v, w, rfl, _⟩ := h; simp
  · obtain ⟨r, x⟩ := p
    obtain ⟨u, v, rfl, hr, hx, _⟩ := h
    dsimp only at hr hx
    obtain ⟨rw_, ro, rfl, hrc⟩ := id hr
    obtain ⟨m, rfl, hm⟩ := id hx
    obtain ⟨oa, on, oc, rfl, ho1, ho2⟩ := id hrc.o
    obtain ⟨wa, wn, wc, rfl, hw1, hw2⟩ := id hrc.w
    obtain ⟨ma, mn, mc, rfl, hm1, hm2⟩ := id hm
    (conv => whnf)
    refine RelP.g (ok2 rpRd rxRd fun _ _ => True) (x := (r, x)) ⟨_, _, rfl, hr, hx, trivial⟩ (Grow.refl _) (fun v G1 hg1 hq => W.mk ?_)
    obtain ⟨gwa, gwn, gwc, goa, gon, goc, gma, gmn, gmc, gc, gy, gp, rfl, hq⟩ := hq
    dsimp only at hq
    dsimp only
    (conv => whnf)
    refine IteP.mk (fun h1 => W.mk ?_) (fun h1 => W.mk ?_) <;> (conv => whnf)
    rotate_left
    · have h1 : ¬ faultX r x = 0 := h1
      refine FinP.mk ⟨_, rfl, ?_⟩
      rw [if_neg h1]
      exact SlV.nil
    have h1 : faultX r x = 0 := h1
    obtain ⟨rfl, rfl, rfl, hgc⟩ := hq h1
    have hfine := rgFine h1
    have hlen := pcF_len (rgOf r x)
    have hwl := hfine.wl
    refine RelP.g (ok1 rgRd fun _ => True) (x := rgOf r x) ⟨_, rfl, ⟨_, _, _, rfl, hgc⟩, trivial⟩ (Grow.refl _) (fun v G2 hg2 hq2 => W.mk ?_)
    obtain ⟨b, rfl, hrb⟩ := hq2
    (conv => whnf)
    refine RangeP.of ((pcF (rgOf r x)).map pcV) { α := Nat × List Value, fr := [(8, .c (.ptr 18 0))], k := fun y => y.1, H := fun y => [(18, .cells .anon [.row 3 y.1] 66), (3, .row none y.1 y.2 79 2)], ok := fun y _ => y.1 ≤ (pcF (rgOf r x)).length ∧ Row pcE (((pcF (rgOf r x)).take y.1).map (·.2)) y.1 y.2 }
      (0, []) (SoundFn.of body70 (pieces70 b (rgOf r x))) (fun l => ⟨rfl, hrb, hfine, rfl⟩) (fun y hy => by obtain ⟨p, _, rfl⟩ := List.mem_map.1 hy; rfl) rfl (HeadP.of [(3, none)] ⟨rfl, trivial⟩ ⟨rfl, rfl, trivial⟩) ⟨Nat.zero_le _, Row.nil⟩ ⟨rfl, fun _ => rfl⟩ (fun _ _ _ _ h => h)
      (fun y e G3 hg3 hk he => W.mk ?_) (fun y G3 hg3 hk hke => W.mk ?_)
    · obtain ⟨k, vs⟩ := y
      obtain ⟨hkl, hrow⟩ := hk
      dsimp only at hkl hrow he
      rw [List.getElem?_map] at he
      obtain ⟨e, he2, rfl⟩ := Option.map_eq_some_iff.1 he
      have hlt := (List.getElem?_eq_some_iff.1 he2).1
      have htk := take_snoc he2
      obtain ⟨sh, tx, cl⟩ := e
      dsimp only [pcV]
      (conv => whnf)
      repeat' (first | (refine OblP.mk rfl (W.mk ?_); (conv => whnf)) | (refine OblP.mk ?_ (W.mk ?_); (first | trivial | omega | (simp only [inR]; omega) | exact Nat.le_of_ble_eq_true (by rfl) | exact SlR.some (by assumption) (by omega)); (conv => whnf)) | (first | (refine RdP.at (by assumption) (by rfl) (W.mk ?_); (conv => whnf)) | (refine RdP.sub (by assumption) (by rfl) (W.mk ?_); (conv => whnf)) | (refine RdP.sub2 (by assumption) (by rfl) (W.mk ?_); (conv => whnf)) | (refine RdP.sub3 (by assumption) (by rfl) (W.mk ?_); (conv => whnf))))
      refine RoundR.of (k + 1, vs ++ [.string tx, I cl]) [(3, some 26)] ⟨rfl, rfl, trivial⟩ ⟨by show k + 1 ≤ _; omega, ?_⟩ rfl
      rw [htk, List.map_append]
      exact hrow.snoc _
    · obtain ⟨k, vs⟩ := y
      obtain ⟨hkl, hrow⟩ := hk
      dsimp only at hkl hrow hke
      rw [List.length_map] at hke
      subst hke
      rw [List.take_length] at hrow
      dsimp only
      (conv => whnf)
      refine PubP.mk (fun a1 c1 G4 hg4 hp => W.mk ?_)
      (conv => whnf)
      refine FinP.mk ⟨_, (by show Value.tuple #[_, I 0] = .tuple #[_, I (faultX r x)]; rw [h1]), ?_⟩
      rw [if_pos h1]
      exact hrow.pub hp (by omega)
/-- The word of a piece: with the error. -/
def findF (r : Rp) (x : Rx) (k : Int) : Int × Int :=
  if faultX r x = 0 then (if 0 ≤ k ∧ k < (pcF (rgOf r x)).length ∧ ((pcF (rgOf r x)).map (·.1)).getD k.toNat (-1) ≠ -1 then (((pcF (rgOf r x)).map (·.1)).getD k.toNat (-1), 0) else (0, 7)) else (0, faultX r x)
theorem find31 : Sound Try.prog 31 id (grel (args3 rpRd rxRd intRd fun _ _ _ => True) fun p v _ => v = .tuple #[I (findF p.1 p.2.1 p.2.2).1, I (findF p.1 p.2.1 p.2.2).2]) := by
  refine comp31.grel tabR (ok3 _ _ _ _) (fun args G s h => ?_) (fun x v G G' hg h => h) (fun args G p h => ?_)
  · obtain ⟨u, v, w, rfl, _⟩ := h; simp
  · obtain ⟨r, x, pc⟩ := p
    obtain ⟨u, v, w, rfl, hr, hx, rfl, _⟩ := h
    dsimp only at hr hx
    obtain ⟨rw_, ro, rfl, hrc⟩ := id hr
    obtain ⟨m, rfl, hm⟩ := id hx
    obtain ⟨oa, on, oc, rfl, ho1, ho2⟩ := id hrc.o
    obtain ⟨wa, wn, wc, rfl, hw1, hw2⟩ := id hrc.w
    obtain ⟨ma, mn, mc, rfl, hm1, hm2⟩ := id hm
    (conv => whnf)
    refine RelP.g (ok2 rpRd rxRd fun _ _ => True) (x := (r, x)) ⟨_, _, rfl, hr, hx, trivial⟩ (Grow.refl _) (fun v G1 hg1 hq => W.mk ?_)
    obtain ⟨gwa, gwn, gwc, goa, gon, goc, gma, gmn, gmc, gc, gy, gp, rfl, hq⟩ := hq
    dsimp only at hq
    dsimp only
    (conv => whnf)
    refine IteP.mk (fun h1 => W.mk ?_) (fun h1 => W.mk ?_) <;> (conv => whnf)
    rotate_left
    · have h1 : ¬ faultX r x = 0 := h1
      refine FinP.mk ?_
      rw [findF, if_neg h1]; rfl
    have h1 : faultX r x = 0 := h1
    obtain ⟨rfl, rfl, rfl, hgc⟩ := hq h1
    have hfine := rgFine h1
    have hlen := pcF_len (rgOf r x)
    have hwl := hfine.wl
    have hF : findF r x pc = if 0 ≤ pc ∧ pc < (pcF (rgOf r x)).length ∧ ((pcF (rgOf r x)).map (·.1)).getD pc.toNat (-1) ≠ -1 then (((pcF (rgOf r x)).map (·.1)).getD pc.toNat (-1), 0) else (0, 7) := by rw [findF, if_pos h1]
    refine RelP.g (ok1 rgRd fun _ => True) (x := rgOf r x) ⟨_, rfl, ⟨_, _, _, rfl, hgc⟩, trivial⟩ (Grow.refl _) (fun v G2 hg2 hq2 => W.mk ?_)
    obtain ⟨b, rfl, hrb⟩ := hq2
    (conv => whnf)
    refine RangeP.of ((pcF (rgOf r x)).map pcV) { α := Nat, fr := [(5, .c (.ptr 2 0)), (10, .c (.ptr 19 0)), (11, .c (.ptr 20 0))], k := fun y => y, H := fun y => [(2, .cells .anon [.val (I pc)] 3), (19, .cells .anon [.val (I y)] 3), (20, .cells .anon [.val (I (-1))] 3)], ok := fun y _ => y ≤ (pcF (rgOf r x)).length ∧ ∀ j : Nat, j < y → pc ≠ j }
      0 (SoundFn.of body70 (pieces70 b (rgOf r x))) (fun l => ⟨rfl, hrb, hfine, rfl⟩) (fun y hy => by obtain ⟨p, _, rfl⟩ := List.mem_map.1 hy; rfl) rfl (HeadP.of [] ⟨rfl, rfl, rfl, trivial⟩ ⟨rfl, rfl, rfl, trivial⟩) ⟨Nat.zero_le _, fun j hj => by omega⟩ ⟨rfl, fun _ => rfl⟩ (fun _ _ _ _ h => h)
      (fun k e G3 hg3 hk he => W.mk ?_) (fun k G3 hg3 hk hke => W.mk ?_)
    · obtain ⟨hkl, hno⟩ := hk
      dsimp only at hkl hno he
      rw [List.getElem?_map] at he
      obtain ⟨e, he2, rfl⟩ := Option.map_eq_some_iff.1 he
      have hlt := (List.getElem?_eq_some_iff.1 he2).1
      obtain ⟨sh, tx, cl⟩ := e
      have hgd : ((pcF (rgOf r x)).map (·.1)).getD k (-1) = sh := by simp [he2]
      dsimp only [pcV]
      (conv => whnf)
      refine IteP.mk (fun hq => W.mk ?_) (fun hq => W.mk ?_) <;> (conv => whnf)
      · have hq : (k : Int) = pc := hq
        have hF2 : findF r x pc = if sh ≠ -1 then (sh, 0) else (0, 7) := by
          rw [hF, ← hq, Int.toNat_natCast, hgd]
          by_cases hs : sh = -1
          · rw [if_neg (fun h => h.2.2 hs), if_neg (fun h => h hs)]
          · rw [if_pos ⟨Int.natCast_nonneg _, by omega, hs⟩, if_pos hs]
        refine ExitR.mk (fun G4 hg4 => W.mk ?_)
        (conv => whnf)
        refine IteP.mk (fun hs => W.mk ?_) (fun hs => W.mk ?_) <;> (conv => whnf)
        · have hs : sh = -1 := hs
          refine FinP.mk ?_
          rw [hF2, if_neg (fun h => h hs)]; rfl
        · have hs : ¬ sh = -1 := hs
          refine FinP.mk ?_
          rw [hF2, if_pos hs]; rfl
      · have hq : ¬ (k : Int) = pc := hq
        (refine OblP.mk ?_ (W.mk ?_); (first | trivial | omega | (simp only [inR]; omega) | exact Nat.le_of_ble_eq_true (by rfl) | exact SlR.some (by assumption) (by omega)); (conv => whnf))
        refine RoundR.of (k + 1) [] ⟨rfl, rfl, rfl, trivial⟩ ⟨Nat.succ_le_of_lt hlt, fun j hj => ?_⟩ rfl
        rcases Nat.lt_succ_iff_lt_or_eq.1 hj with h | rfl
        · exact hno j h
        · exact fun h => hq h.symm
    · obtain ⟨hkl, hno⟩ := hk
      dsimp only at hkl hno hke
      rw [List.length_map] at hke
      have hke : @Eq Nat k (pcF (rgOf r x)).length := hke
      dsimp only
      (conv => whnf)
      refine IteP.mk (fun hs => W.mk ?_) (fun hs => W.mk ?_) <;> (conv => whnf)
      · refine FinP.mk ?_
        rw [hF, if_neg (fun h => hno pc.toNat (Nat.lt_of_lt_of_eq (by have h1 := h.1; have h2 := h.2.1; omega) hke.symm) (by have h1 := h.1; omega))]; rfl
      · exact absurd rfl hs
end Go.Proofs.Ytpcpjmplgladmaa

namespace Go.Proofs.Ytpcpjmplgladmaa
open Go.Pal Go.RowKit
set_option maxRecDepth 100000
theorem mapI_flat (l : List Int) : l.map I = (l.map intE.f).flatten := (flat1 I l).symm
theorem joinL_rowI {G : Hp} {b n0 n cap : Nat} {l : List Int} {rest : List Value} {w : Bool} (hl : l.length = n) (hc : n ≤ cap) (hb : n ≤ 140737488355328) : SlV intE (joinL G [⟨b, w, .row n0 n cap (l.map I) rest 3 1⟩]) (.slice (some ⟨b, 0, none⟩) n cap) l := by
  refine PubRow.slV (e := intE) (vs := l.map I) ⟨hc, fun _ => rfl, fun j v hj => ?_⟩ (mapI_flat l) hl hb
  have hj2 : j < (l.map I).length := (List.getElem?_eq_some_iff.1 hj).1
  show rd1 _ b (0 + j) = _
  simp only [rd1, joinL, Nat.beq_refl, cond_true, LB.obj, Nat.zero_add]
  simp only [List.getElem?_toArray, List.getElem?_append_left hj2, hj]
abbrev Cols := Int → List Int
def addC (c : Int) (F : Cols) (h : Int) : Cols := if (F h).contains c then F else fun y => if y = h then F h ++ [c] else F y
def stepC (g : Rg) (F : Cols) (e : Int × Pc) : Cols := if e.1 = -1 then F else (g.r.words.getD e.1.toNat ⟨noText, []⟩).heads.foldl (addC e.2.col) F
def colsF (g : Rg) : Cols := (pcF g).foldl (stepC g) fun _ => []
structure FoundIs (p : Hp) (m : Int → Option Value) (F : Cols) : Prop where
  at_ : ∀ h v, m h = some v → ∃ (b : Nat) (cs : List Value), v = .slice (some ⟨b, 0, none⟩) (F h).length cs.length ∧ p b = some (.cells cs.toArray 3 (0, 0)) ∧ (F h).length ≤ cs.length ∧ cs.length ≤ maxLen ∧ cs.take (F h).length = (F h).map I
  no : ∀ h, m h = none ↔ F h = []
  inj : ∀ h h' b n c n' c', m h = some (.slice (some ⟨b, 0, none⟩) n c) → m h' = some (.slice (some ⟨b, 0, none⟩) n' c') → h = h'
theorem FoundIs.nil : FoundIs (fun _ => none) (fun _ => none) (fun _ => []) := ⟨fun h v e => (by cases e), fun h => by simp, fun h h' b n c n' c' e => by cases e⟩
theorem FoundIs.put {p : Hp} {m : Int → Option Value} {F : Cols} (H : FoundIs p m F) {x c : Int} {b : Nat} {cs : List Value} (hx : (F x).contains c = false) (hb : p b = none ∨ ∃ n k, m x = some (.slice (some ⟨b, 0, none⟩) n k))
    (h1 : (F x).length + 1 ≤ cs.length) (h2 : cs.length ≤ maxLen) (h3 : cs.take ((F x).length + 1) = (F x ++ [c]).map I) :
    FoundIs (upd p b (some (.cells cs.toArray 3 (0, 0)))) (fun y => if y = x then some (.slice (some ⟨b, 0, none⟩) ((F x).length + 1) cs.length) else m y) (addC c F x) := by
  have hF : ∀ y, addC c F x y = if y = x then F x ++ [c] else F y := fun y => by rw [addC, hx]; rfl
  have hne : ∀ y b' n k, y ≠ x → m y = some (.slice (some ⟨b', 0, none⟩) n k) → b' ≠ b := fun y b' n k hy hm e => by
    subst e
    rcases hb with hb | ⟨n', k', hm'⟩
    · obtain ⟨b2, cs2, e1, e2, _⟩ := H.at_ y _ hm
      cases e1
      rw [hb] at e2; cases e2
    · exact hy (H.inj _ _ _ _ _ _ _ hm hm')
  refine ⟨fun h v e => ?_, fun h => ?_, fun h h' b' n k n' k' e e' => ?_⟩
  · by_cases hh : h = x
    · subst hh
      rw [if_pos rfl] at e
      cases e
      rw [hF, if_pos rfl]
      refine ⟨b, cs, ?_, by rw [upd_same], ?_, h2, ?_⟩
      · simp
      · simpa using h1
      · simpa using h3
    · rw [if_neg hh] at e
      obtain ⟨b2, cs2, rfl, e2, e3⟩ := H.at_ h v e
      rw [hF, if_neg hh]
      exact ⟨b2, cs2, rfl, by rw [upd_other _ _ (hne h b2 _ _ hh e)]; exact e2, e3⟩
  · rw [hF]
    by_cases hh : h = x
    · simp [hh]
    · rw [if_neg hh, if_neg hh]; exact H.no h
  · by_cases hh : h = x <;> by_cases hh' : h' = x
    · rw [hh, hh']
    · rw [if_pos hh] at e; rw [if_neg hh'] at e'
      cases e
      exact absurd rfl (hne h' _ _ _ hh' e')
    · rw [if_neg hh] at e; rw [if_pos hh'] at e'
      cases e'
      exact absurd rfl (hne h _ _ _ hh e)
    · rw [if_neg hh] at e; rw [if_neg hh'] at e'
      exact H.inj _ _ _ _ _ _ _ e e'
theorem asc_uniq : ∀ {a b : List Int}, a.Pairwise (· < ·) → b.Pairwise (· < ·) → (∀ x, x ∈ a ↔ x ∈ b) → a = b
  | [], [], _, _, _ => rfl
  | [], y :: b, _, _, h => by have := (h y).2 (by simp); simp at this
  | x :: a, [], _, _, h => by have := (h x).1 (by simp); simp at this
  | x :: a, y :: b, ha, hb, h => by
    rw [List.pairwise_cons] at ha hb
    have hxy : x = y := by
      have h1 := (h x).1 (by simp)
      have h2 := (h y).2 (by simp)
      rcases List.mem_cons.1 h1 with e | e
      · exact e
      rcases List.mem_cons.1 h2 with e' | e'
      · exact e'.symm
      have := hb.1 x e
      have := ha.1 y e'
      omega
    subst hxy
    congr 1
    refine asc_uniq ha.2 hb.2 fun z => ⟨fun hz => ?_, fun hz => ?_⟩
    · rcases List.mem_cons.1 ((h z).1 (by simp [hz])) with e | e
      · have := ha.1 z hz; omega
      · exact e
    · rcases List.mem_cons.1 ((h z).2 (by simp [hz])) with e | e
      · have := hb.1 z hz; omega
      · exact e
def hdsF (F : Cols) : List Int := ((List.range 100).map (fun n : Nat => (n : Int))).filter fun h => !(F h).isEmpty
theorem hds_asc {F : Cols} {m : Int → Option Value} {ss : List Int} (h : Asc ss m) (hm : ∀ h, m h = none ↔ F h = []) (hr : ∀ h, F h ≠ [] → 0 ≤ h ∧ h ≤ 99) : ss = hdsF F := by
  refine asc_uniq h.lt ?_ fun x => ?_
  · refine List.Pairwise.filter _ ?_
    rw [List.pairwise_map]
    exact List.pairwise_lt_range.imp fun {a b} h => by omega
  · rw [h.mem, hdsF, List.mem_filter, List.mem_map]
    constructor
    · intro hx
      have hx' : F x ≠ [] := fun e => hx ((hm x).2 e)
      have := hr x hx'
      refine ⟨⟨x.toNat, List.mem_range.2 (by omega), by omega⟩, by simpa using hx'⟩
    · rintro ⟨_, hx⟩ e
      have := (hm x).1 e
      simp [this] at hx
theorem ris_mem {most : Int} {l : List Int} (h : risM most l = true) : ∀ x ∈ l, 0 ≤ x ∧ x ≤ most := fun x hx => by
  obtain ⟨i, hi, rfl⟩ := List.getElem_of_mem hx
  simp only [risM, List.all_eq_true, List.mem_range] at h
  have := h i hi
  simp only [risAt, inF, Bool.and_eq_true, decide_eq_true_eq, gd0 hi] at this
  exact this.1
theorem addC_rng {c : Int} {F : Cols} {x : Int} (h : ∀ y, F y ≠ [] → 0 ≤ y ∧ y ≤ 99) (hx : 0 ≤ x ∧ x ≤ 99) : ∀ y, addC c F x y ≠ [] → 0 ≤ y ∧ y ≤ 99 := fun y hy => by
  unfold addC at hy
  split at hy
  · exact h y hy
  · by_cases e : y = x
    · subst e; exact hx
    · simp only [if_neg e] at hy; exact h y hy
end Go.Proofs.Ytpcpjmplgladmaa

namespace Go.Proofs.Ytpcpjmplgladmaa
open Go.Pal Go.RowKit
set_option maxRecDepth 100000
theorem body47 : HasBody Try.prog 47 := hasBody_of (by kernel_rfl)
theorem body48 : HasBody Try.prog 48 := hasBody_of (by kernel_rfl)
/-- An entry. -/
structure En where
  head : Int
  cols : List Int
def EnR (G : Hp) (cs : List Value) (w : En) : Prop := ∃ h, cs = [I w.head, h] ∧ SlV intE G h w.cols
theorem EnR.uniq {G : Hp} {cs : List Value} {x y : En} (h : EnR G cs x) (h' : EnR G cs y) : x = y := by
  obtain ⟨a, e, h1⟩ := h
  obtain ⟨b, e', h2⟩ := h'
  rw [e] at e'
  simp only [List.cons.injEq, Value.int.injEq, true_and, and_true] at e'
  obtain ⟨e1, e2⟩ := e'
  subst e2
  have := h1.uniq h2
  cases x; cases y; simp_all
theorem EnR.grow {G G' : Hp} (hg : Grow G G') {cs : List Value} {x : En} (h : EnR G cs x) : EnR G' cs x := by
  obtain ⟨a, e, h1⟩ := h
  exact ⟨a, e, h1.grow hg⟩
def EnsV (G : Hp) (v : Value) (ws : List En) : Prop := ∃ a n c, v = .slice a n c ∧ SlR 2 EnR G a n c ws ∧ n ≤ 140737488355328
theorem EnsV.grow {G G' : Hp} (hg : Grow G G') {v : Value} {ws : List En} (h : EnsV G v ws) : EnsV G' v ws := by
  obtain ⟨a, n, c, e, h1, h2⟩ := h
  exact ⟨a, n, c, e, SlR.grow (fun _ _ h => h.grow hg) h1 hg, h2⟩
abbrev REn := Int × Option Addr × Nat × Nat
def enE : El REn := ⟨2, fun p => [I p.1, .slice p.2.1 p.2.2.1 p.2.2.2], fun {x y} h => by obtain ⟨_, _, _, _⟩ := x; obtain ⟨_, _, _, _⟩ := y; simp at h; simp [h], fun _ => rfl, fun _ v hv => by simp at hv; rcases hv with rfl | rfl <;> rfl⟩
def rawEn (m : Int → Option Value) (h : Int) : REn := match m h with
  | some (.slice a n c) => (h, a, n, c)
  | _ => (h, none, 0, 0)
def indexF (r : Rp) (x : Rx) : List En := (hdsF (colsF (rgOf r x))).map fun h => ⟨h, colsF (rgOf r x) h⟩
theorem addC_len (c : Int) (F : Cols) (h y : Int) : (addC c F h y).length ≤ (F y).length + 1 := by
  unfold addC
  split
  · omega
  · dsimp only
    split
    · rename_i e; subst e; simp
    · omega
structure KOk (es : Array MapEntry) (ck : Nat) (m : Int → Option Value) (p : Hp) (F F0 : Cols) (N : Nat) : Prop where
  f : F = F0
  fi : FoundIs p m F
  sm : SMap es ck m
  rg : ∀ h, F h ≠ [] → 0 ≤ h ∧ h ≤ 99
  sz : es.size ≤ N
  ln : ∀ h, (F h).length ≤ N
theorem pcK_mem (g : Rg) : ∀ i, ∀ e ∈ pcK g i, e.1 = -1 ∨ ∃ j : Nat, j < i ∧ e.1 = j
  | 0, e, h => by simp [pcK] at h
  | i + 1, e, h => by
    have ih := pcK_mem g i e
    have up : (e.1 = -1 ∨ ∃ j : Nat, j < i ∧ e.1 = j) → (e.1 = -1 ∨ ∃ j : Nat, j < i + 1 ∧ e.1 = j) := fun h => h.imp id fun ⟨j, h1, h2⟩ => ⟨j, by omega, h2⟩
    simp only [pcK] at h
    split at h
    · split at h
      · exact up (ih h)
      · rcases List.mem_append.1 h with h | h
        · exact up (ih h)
        · simp at h; subst h; exact .inl rfl
    · rcases List.mem_append.1 h with h | h
      · exact up (ih h)
      · simp at h; subst h; exact .inr ⟨i, by omega, rfl⟩
theorem putE_size (es : Array MapEntry) (ck : Nat) (kv vv : Value) (r : Option Nat) : (putE es ck kv vv r).1.size ≤ es.size + 1 := by
  cases r <;> simp [putE]
theorem SlR.mapEn {G : Hp} {a : Option Addr} {n c : Nat} {raws : List REn} {ens : List En} (h : SlR 2 enE.R G a n c raws) (hl : ens.length = raws.length) (h2 : ∀ i (h1 : i < raws.length) (h3 : i < ens.length), EnR G (enE.f raws[i]) ens[i]) : SlR 2 EnR G a n c ens := by
  refine ⟨by rw [hl]; exact h.len, h.cap, h.some, fun i hi => ?_⟩
  obtain ⟨cs, k1, k2, k3⟩ := h.at_ i (by omega)
  have k3 : cs = enE.f _ := k3
  exact ⟨cs, k1, k2, by rw [k3]; exact h2 i (by omega) hi⟩
theorem FoundIs.read {p : Hp} {m : Int → Option Value} {F : Cols} (H : FoundIs p m F) {G : Hp} (hG : ∀ b o, p b = some o → G b = some o) {h : Int} (hm : m h ≠ none) (hb : (F h).length ≤ 1000) : EnR G (enE.f (rawEn m h)) ⟨h, F h⟩ := by
  obtain ⟨v, hv⟩ := Option.ne_none_iff_exists'.1 hm
  obtain ⟨b, cs, rfl, h1, h2, h3, h4⟩ := H.at_ h v hv
  refine ⟨.slice (some ⟨b, 0, none⟩) (F h).length cs.length, by simp only [rawEn, hv]; rfl, PubRow.slV (e := intE) (vs := (F h).map I) ⟨h2, fun _ => rfl, fun j v hj => ?_⟩ (mapI_flat _) rfl (by omega)⟩
  have hj2 := (List.getElem?_eq_some_iff.1 hj).1
  rw [List.length_map] at hj2
  show rd1 G b (0 + j) = _
  simp only [rd1, hG _ _ h1, Nat.zero_add]
  rw [← h4, List.getElem?_take, if_pos hj2] at hj
  simpa using hj
set_option maxHeartbeats 1000000 in
theorem index15 : Sound Try.prog 15 id (grel (args2 rpRd rxRd fun _ _ => True) fun p v G => ∃ w, v = .tuple #[w, I (faultX p.1 p.2)] ∧ EnsV G w (if faultX p.1 p.2 = 0 then indexF p.1 p.2 else [])) := by
  refine comp15.grelH (Tab.cons 44 _ read44 body44 (Tab.cons 45 _ pieces45 body45 (Tab.nil _))) (ok2 _ _ _) (fun args G s h => ?_) (fun x v G G' hg ⟨w, h1, h2⟩ => ⟨w, h1, h2.grow hg⟩) (fun args G p h => ?_)
  · obtain ⟨v, w, rfl, _⟩ := h; simp
  · obtain ⟨r, x⟩ := p
    obtain ⟨u, v, rfl, hr, hx, _⟩ := h
    dsimp only at hr hx
    obtain ⟨rw_, ro, rfl, hrc⟩ := id hr
    obtain ⟨m, rfl, hm⟩ := id hx
    obtain ⟨oa, on, oc, rfl, ho1, ho2⟩ := id hrc.o
    obtain ⟨wa, wn, wc, rfl, hw1, hw2⟩ := id hrc.w
    obtain ⟨ma, mn, mc, rfl, hm1, hm2⟩ := id hm
    (conv => whnf)
    refine RelP.g (ok2 rpRd rxRd fun _ _ => True) (x := (r, x)) ⟨_, _, rfl, hr, hx, trivial⟩ (Grow.refl _) (fun v G1 hg1 hq => W.mk ?_)
    obtain ⟨gwa, gwn, gwc, goa, gon, goc, gma, gmn, gmc, gc, gy, gp, rfl, hq⟩ := hq
    dsimp only at hq
    dsimp only
    (conv => whnf)
    refine IteP.mk (fun h1 => W.mk ?_) (fun h1 => W.mk ?_) <;> (conv => whnf)
    rotate_left
    · have h1 : ¬ faultX r x = 0 := h1
      refine PubAnyP.mk ⟨[], W.mk ?_⟩
      (conv => whnf)
      refine FinP.mk ⟨_, rfl, ?_⟩
      rw [if_neg h1]
      exact ⟨none, 0, 0, rfl, ⟨rfl, Nat.le_refl _, fun h => absurd rfl h, fun i hi => by simp at hi⟩, Nat.zero_le _⟩
    have h1 : faultX r x = 0 := h1
    obtain ⟨rfl, rfl, rfl, hgc⟩ := hq h1
    have hfine := rgFine h1
    have hfn := (faultX_fine h1).1
    have hlen := pcF_len (rgOf r x)
    have hwl := hfine.wl
    refine RelP.g (ok1 rgRd fun _ => True) (x := rgOf r x) ⟨_, rfl, ⟨_, _, _, rfl, hgc⟩, trivial⟩ (Grow.refl _) (fun v G2 hg2 hq2 => W.mk ?_)
    obtain ⟨b, rfl, hrb⟩ := hq2
    have hgc2 := hgc.grow hg2
    (conv => whnf)
    refine RangeP.of ((pcF (rgOf r x)).map pcV) { α := Nat × Array MapEntry × Nat × (Int → Option Value) × Hp × Cols, fr := [(6, .c (.ptr 11 0)), (8, .c (.ptr 20 0))], k := fun y => y.1, H := fun y => [(0, .heap y.2.2.2.2.1), (11, .cells .anon ((rgl (.slice gwa gwn gwc) (.slice goa gon goc) (.slice gma gmn gmc) r.cols x.year (rgOf r x).p).map .val) 97), (19, .map .anon y.2.1 y.2.2.1), (20, .cells .anon [.mref 19] 100)], ok := fun y _ => y.1 ≤ (pcF (rgOf r x)).length ∧ KOk y.2.1 y.2.2.1 y.2.2.2.1 y.2.2.2.2.1 y.2.2.2.2.2 (((pcF (rgOf r x)).take y.1).foldl (stepC (rgOf r x)) fun _ => []) (5 * y.1) }
      (0, #[], 0, fun _ => none, fun _ => none, fun _ => []) (SoundFn.of body70 (pieces70 b (rgOf r x))) (fun l => ⟨rfl, hrb, hfine, rfl⟩) (fun y hy => by obtain ⟨p, _, rfl⟩ := List.mem_map.1 hy; rfl) rfl (HeadP.of [] ⟨rfl, rfl, trivial⟩ ⟨rfl, rfl, rfl, rfl, trivial⟩) ⟨Nat.zero_le _, rfl, FoundIs.nil, SMap.nil, fun h h' => absurd rfl h', Nat.le_refl _, fun h => Nat.le_refl _⟩ ⟨rfl, fun _ => rfl⟩ (fun _ _ _ _ h => h)
      (fun y e G3 hg3 hk he => W.mk ?_) (fun y G3 hg3 hk hke => W.mk ?_)
    · obtain ⟨k, es, ck, m, p, F⟩ := y
      obtain ⟨hkl, hok⟩ := hk
      dsimp only at hkl hok he
      rw [List.getElem?_map] at he
      obtain ⟨e, he2, rfl⟩ := Option.map_eq_some_iff.1 he
      have hlt := (List.getElem?_eq_some_iff.1 he2).1
      have htkO := take_snoc he2
      obtain ⟨sh, tx, cl⟩ := e
      dsimp only [pcV]
      (conv => whnf)
      refine IteP.mk (fun hs => W.mk ?_) (fun hs => W.mk ?_) <;> (conv => whnf)
      · have hs : sh = -1 := hs
        refine RoundR.of (k + 1, es, ck, m, p, F) [] ⟨rfl, rfl, rfl, rfl, trivial⟩ ⟨Nat.succ_le_of_lt hlt, ?_⟩ rfl
        dsimp only
        rw [htkO, List.foldl_append]
        have hst : ∀ F0, [(sh, (⟨tx, cl⟩ : Pc))].foldl (stepC (rgOf r x)) F0 = F0 := fun F0 => by simp only [List.foldl_cons, List.foldl_nil, stepC, if_pos hs]
        rw [hst]
        exact ⟨hok.f, hok.fi, hok.sm, hok.rg, (by have := hok.sz; show es.size ≤ _; omega), fun h => (by have := hok.ln h; show (F h).length ≤ _; omega)⟩
      have hs : ¬ sh = -1 := hs
      obtain ⟨i, hi, rfl⟩ : ∃ i : Nat, i < r.words.length ∧ sh = i := (pcK_mem (rgOf r x) _ _ (List.mem_of_getElem? he2)).elim (fun h => absurd h hs) id
      obtain ⟨_, _, _, q1, hw1, hw2⟩ := (hgc2.grow hg3).rp.w
      cases q1
      have hwn := hw1.len
      have hwn : r.words.length = gwn := hwn
      obtain ⟨cs, _, hcs, hv, rfl, ha, hn, hcc, rfl, hh1, hh2⟩ := SlR.cells hw1 hi
      have hgd : (rgOf r x).r.words.getD i ⟨noText, []⟩ = r.words[i] := by simp [rgOf, hi]
      have hwf := hfn.w _ (List.getElem_mem hi)
      have hcs : CellsAt G3 (ab gwa) (ao gwa + i * 2) [.string r.words[i].text, .slice ha hn hcc] := hcs
      have hh1 : SlR intE.k intE.R G3 ha hn hcc r.words[i].heads := hh1
      have hst : ∀ F0, [((i : Int), (⟨tx, cl⟩ : Pc))].foldl (stepC (rgOf r x)) F0 = r.words[i].heads.foldl (addC cl) F0 := fun F0 => by
        simp only [List.foldl_cons, List.foldl_nil, stepC, if_neg hs, Int.toNat_natCast, hgd]
      generalize r.words[i] = wd at hcs hh1 hst hwf
      have hhn := hh1.len
      have hrm := ris_mem hwf.2.2.2.1
      repeat' (first | (refine OblP.mk ?_ (W.mk ?_); (first | trivial | omega | (simp only [inR]; omega) | exact Nat.le_of_ble_eq_true (by rfl) | exact SlR.some (by assumption) (by omega)); (conv => whnf)) | (first | (refine RdP.at (by assumption) (by rfl) (W.mk ?_); (conv => whnf)) | (refine RdP.sub (by assumption) (by rfl) (W.mk ?_); (conv => whnf)) | (refine RdP.sub2 (by assumption) (by rfl) (W.mk ?_); (conv => whnf)) | (refine RdP.sub3 (by assumption) (by rfl) (W.mk ?_); (conv => whnf))))
      have hok0 := hok
      refine LoopP.of { α := Nat × Array MapEntry × Nat × (Int → Option Value) × Hp × Cols, fr := fun y => [(6, .c (.ptr 11 0)), (8, .c (.ptr 20 0)), (10, .c (.ptr 25 0)), (38, .v (.slice ha hn hcc)), (39, .v (I hn)), (40, .v (I y.1))], H := fun y => [(0, .heap y.2.2.2.2.1), (11, .cells .anon ((rgl (.slice gwa gwn gwc) (.slice goa gon goc) (.slice gma gmn gmc) r.cols x.year (rgOf r x).p).map .val) 97), (19, .map .anon y.2.1 y.2.2.1), (20, .cells .anon [.mref 19] 100), (25, .cells .anon [.val (.string tx), .val (I cl)] 79)], ok := fun y _ => y.1 ≤ hn ∧ KOk y.2.1 y.2.2.1 y.2.2.2.1 y.2.2.2.2.1 y.2.2.2.2.2 ((wd.heads.take y.1).foldl (addC cl) (((pcF (rgOf r x)).take k).foldl (stepC (rgOf r x)) fun _ => [])) (5 * k + y.1), m := fun y => hn - y.1 }
        (0, es, ck, m, p, F) (HeadP.of [] ⟨rfl, rfl, rfl, rfl, rfl, rfl, trivial⟩ ⟨rfl, rfl, rfl, rfl, rfl, trivial⟩) ⟨Nat.zero_le _, hok⟩ (fun _ => ⟨rfl, rfl⟩) (fun y G4 hg4 hx => W.mk ?_)
      clear hok
      obtain ⟨j, es, ck, m, p, F⟩ := y
      obtain ⟨hj, hok⟩ := hx
      dsimp only at hj hok
      have hh4 : SlR intE.k intE.R G4 ha hn hcc wd.heads := SlR.grow (G := G3) (G' := G4) (fun _ _ h => h) hh1 hg4
      dsimp only
      (conv => whnf)
      refine IteP.mk (fun hlt => W.mk ?_) (fun hge => W.mk ?_) <;> (conv => whnf)
      · have hlj : j < wd.heads.length := by omega
        have hc := hh4.el hlj
        have hdr := hrm _ (List.getElem_mem hlj)
        have htk := take_snoc (List.getElem?_eq_getElem hlj)
        generalize wd.heads[j] = hd at hc hdr htk
        repeat' (first | (refine OblP.mk ?_ (W.mk ?_); (first | trivial | omega | (simp only [inR]; omega) | exact Nat.le_of_ble_eq_true (by rfl) | exact SlR.some (by assumption) (by omega)); (conv => whnf)) | (first | (refine RdP.at (by assumption) (by rfl) (W.mk ?_); (conv => whnf)) | (refine RdP.sub (by assumption) (by rfl) (W.mk ?_); (conv => whnf)) | (refine RdP.sub2 (by assumption) (by rfl) (W.mk ?_); (conv => whnf)) | (refine RdP.sub3 (by assumption) (by rfl) (W.mk ?_); (conv => whnf))))
        obtain ⟨kr, f1, f2, f3⟩ := hok.sm.find (x := hd) (by simp only [inR]; omega)
        refine KeyP.mk ⟨_, f1, W.mk ?_⟩
        dsimp only
        rw [f2]
        have hf0 := hok.fi.no hd
        have hfs := hok.fi.at_ hd
        cases hm : m hd with
        | none =>
          have hF0 : F hd = [] := hf0.1 hm
          dsimp only [lookD]
          (conv => whnf)
          refine CallN.mk ⟨_, con46, body46, W.mk ?_⟩
          (conv => whnf)
          refine ScaP.g (ok2 (slRd intE) intRd fun _ _ => True) (x := (([] : List Int), cl)) ⟨_, _, rfl, SlV.nil, rfl, trivial⟩ (fun v hv => W.mk ?_)
          subst hv
          dsimp only
          (conv => whnf)
          refine ForkP.mk (fun hq => W.mk ?_) (fun hq => W.mk ?_) <;> (conv => whnf)
          · cases hq
          refine DrawP.mk monoT_nil rfl (W.mk ?_)
          (conv => whnf)
          refine KeyP.mk ⟨_, f1, W.mk ?_⟩
          dsimp only
          rw [f2, hm]
          dsimp only [lookD]
          (conv => whnf)
          have hct : (F hd).contains cl = false := by rw [hF0]; rfl
          repeat' (first | (refine OblP.mk rfl (W.mk ?_); (conv => whnf)) | (refine OblP.mk ⟨by omega, by omega⟩ (W.mk ?_); (conv => whnf)) | (refine OblP.mk ?_ (W.mk ?_); (first | trivial | omega | (simp only [inR]; omega) | exact Nat.le_of_ble_eq_true (by rfl) | exact SlR.some (by assumption) (by omega)); (conv => whnf)) | (first | (refine RdP.at (by assumption) (by rfl) (W.mk ?_); (conv => whnf)) | (refine RdP.sub (by assumption) (by rfl) (W.mk ?_); (conv => whnf)) | (refine RdP.sub2 (by assumption) (by rfl) (W.mk ?_); (conv => whnf)) | (refine RdP.sub3 (by assumption) (by rfl) (W.mk ?_); (conv => whnf))))
          refine AppnP.mk (fun b2 cap rest g1 g2 g3 g4 => W.mk ?_)
          have hfi := FoundIs.put hok.fi (x := hd) (c := cl) (b := b2) (cs := [I cl] ++ rest) hct (.inl g1) (by rw [hF0]; simp) (by simp; omega) (by rw [hF0]; rfl)
          rw [show ([I cl] ++ rest).length = cap by simp; omega] at hfi
          have hfi : FoundIs (upd p b2 (some (.cells ([I cl] ++ rest).toArray 3 (0, 0)))) (fun y => if y = hd then some (.slice (some ⟨b2, 0, none⟩) 1 cap) else m y) (addC cl F hd) := by
            rw [show (F hd).length + 1 = 1 by rw [hF0]; rfl] at hfi; exact hfi
          (conv => whnf)
          refine KeyP.mk ⟨_, f1, W.mk ?_⟩
          (conv => whnf)
          (refine OblP.mk ?_ (W.mk ?_); (first | trivial | omega | (simp only [inR]; omega) | exact Nat.le_of_ble_eq_true (by rfl) | exact SlR.some (by assumption) (by omega)); (conv => whnf))
          refine RoundP.of (j + 1, _, _, (fun y => if y = hd then some (.slice (some ⟨b2, 0, none⟩) 1 cap) else m y), _, addC cl F hd) (HeadP.of [] ⟨rfl, rfl, rfl, rfl, rfl, rfl, trivial⟩ ⟨rfl, rfl, rfl, rfl, rfl, trivial⟩) ⟨by show j + 1 ≤ hn; omega, ?_⟩ (by simp only; omega)
          dsimp only
          rw [htk, List.foldl_append]
          refine ⟨?_, hfi, f3 _, addC_rng hok.rg hdr, ?_, fun y => ?_⟩
          · show addC cl F hd = addC cl _ hd
            rw [← hok.f]
          · have h1 := hok.sz
            have h2 := putE_size es ck (I hd) (.slice (some ⟨b2, 0, none⟩) 1 cap) kr
            show (putE es ck (I hd) (.slice (some ⟨b2, 0, none⟩) 1 cap) kr).1.size ≤ _
            omega
          · have h1 := hok.ln y
            have h2 := addC_len cl F hd y
            show (addC cl F hd y).length ≤ _
            omega
        | some v =>
          obtain ⟨b2, cs, rfl, hpb, hle, hmx, htake⟩ := hfs v hm
          dsimp only [lookD]
          (conv => whnf)
          have hall : (F hd).map I ++ cs.drop (F hd).length = cs := by rw [← htake, List.take_append_drop]
          have hone : LB.one (.row (F hd).length (F hd).length cs.length ((F hd).map I) (cs.drop (F hd).length) 3 1) := ⟨Nat.le_refl _, by simp, by simp, hle, hmx, fun v hv => by obtain ⟨x, _, rfl⟩ := List.mem_map.1 hv; rfl⟩
          have hlnb := hok.ln hd
          have hbig : (F hd).length ≤ 140737488355328 := by omega
          refine CallN.mk ⟨_, Sound.lendS con46 (fun v => v = .bool ((F hd).contains cl)), body46, W.mk ?_⟩
          (conv => whnf)
          have hS : SlV intE (joinL G4 [⟨b2, false, .row (F hd).length (F hd).length cs.length ((F hd).map I) (cs.drop (F hd).length) 3 1⟩]) (.slice (some ⟨b2, 0, none⟩) (F hd).length cs.length) (F hd) := joinL_rowI rfl hle hbig
          refine StP.mk ⟨[(0, ⟨b2, false, .row (F hd).length (F hd).length cs.length ((F hd).map I) (cs.drop (F hd).length) 3 1⟩)], ⟨⟨rfl, by rw [hall]; exact hpb, hone⟩, trivial⟩, by simp, ⟨fun x hx => by simp at hx; subst hx; rfl, fun _ => ⟨⟨(F hd, cl), _, _, rfl, hS, rfl, trivial⟩, fun v ⟨y, hy, e⟩ => ?_⟩⟩, fun v ns G5 hg5 hpost => W.mk ?_⟩
          · have : y = (F hd, cl) := (ok2 (slRd intE) intRd fun _ _ => True).uniq _ _ _ _ hy ⟨_, _, rfl, hS, rfl, trivial⟩
            subst this; exact e
          obtain ⟨_, rfl⟩ := hpost
          (conv => whnf)
          refine ForkP.mk (fun hct => W.mk ?_) (fun hct => W.mk ?_) <;> (conv => whnf)
          · have hct : (F hd).contains cl = true := hct
            (refine OblP.mk ?_ (W.mk ?_); (first | trivial | omega | (simp only [inR]; omega) | exact Nat.le_of_ble_eq_true (by rfl) | exact SlR.some (by assumption) (by omega)); (conv => whnf))
            refine RoundP.of (j + 1, es, ck, m, p, F) (HeadP.of [] ⟨rfl, rfl, rfl, rfl, rfl, rfl, trivial⟩ ⟨rfl, rfl, rfl, rfl, rfl, trivial⟩) ⟨by show j + 1 ≤ hn; omega, ?_⟩ (by simp only; omega)
            dsimp only
            rw [htk, List.foldl_append]
            refine ⟨?_, hok.fi, hok.sm, hok.rg, (by have := hok.sz; show es.size ≤ _; omega), fun y => (by have := hok.ln y; show (F y).length ≤ _; omega)⟩
            show F = addC cl _ hd
            rw [← hok.f]
            exact (if_pos hct).symm
          have hct : (F hd).contains cl = false := hct
          refine DrawP.mk monoT_nil rfl (W.mk ?_)
          (conv => whnf)
          refine KeyP.mk ⟨_, f1, W.mk ?_⟩
          dsimp only
          rw [f2, hm]
          dsimp only [lookD]
          (conv => whnf)
          repeat' (first | (refine OblP.mk rfl (W.mk ?_); (conv => whnf)) | (refine OblP.mk ?_ (W.mk ?_); (first | trivial | omega | (simp only [inR]; omega) | exact Nat.le_of_ble_eq_true (by rfl) | exact SlR.some (by assumption) (by omega)); (conv => whnf)) | (first | (refine RdP.at (by assumption) (by rfl) (W.mk ?_); (conv => whnf)) | (refine RdP.sub (by assumption) (by rfl) (W.mk ?_); (conv => whnf)) | (refine RdP.sub2 (by assumption) (by rfl) (W.mk ?_); (conv => whnf)) | (refine RdP.sub3 (by assumption) (by rfl) (W.mk ?_); (conv => whnf))))
          refine HpkP.mk ⟨cs, 3, hpb, W.mk ?_⟩
          (conv => whnf)
          refine OblP.mk ⟨rfl, rfl, by simp, hle, hmx, fun u hu => ?_⟩ (W.mk ?_)
          · rw [Nat.mul_one, htake] at hu
            obtain ⟨x, _, rfl⟩ := List.mem_map.1 hu; rfl
          (conv => whnf)
          refine OblP.mk rfl (W.mk ?_)
          (conv => whnf)
          refine OblP.mk ⟨by omega, by omega⟩ (W.mk ?_)
          (conv => whnf)
          have htk1 : cs.take ((F hd).length * 1) = (F hd).map I := by rw [Nat.mul_one]; exact htake
          refine IteP.mk (fun hfit => W.mk ?_) (fun hfit => W.mk ?_) <;> (conv => whnf)
          · have hfit : (F hd).length + 1 ≤ cs.length := by omega
            have hl2 : (cs.take ((F hd).length * 1) ++ [I cl] ++ cs.drop (((F hd).length + 1) * 1)).length = cs.length := by simp; omega
            have hfi := FoundIs.put hok.fi (x := hd) (c := cl) (b := b2) (cs := cs.take ((F hd).length * 1) ++ [I cl] ++ cs.drop (((F hd).length + 1) * 1)) hct (.inr ⟨_, _, hm⟩) (by rw [hl2]; exact hfit) (by rw [hl2]; exact hmx) (by rw [htk1, List.take_append_of_le_length (by simp), List.take_of_length_le (by simp)]; simp)
            rw [hl2] at hfi
            refine KeyP.mk ⟨_, f1, W.mk ?_⟩
            (conv => whnf)
            (refine OblP.mk ?_ (W.mk ?_); (first | trivial | omega | (simp only [inR]; omega) | exact Nat.le_of_ble_eq_true (by rfl) | exact SlR.some (by assumption) (by omega)); (conv => whnf))
            refine RoundP.of (j + 1, _, _, (fun y => if y = hd then some (.slice (some ⟨b2, 0, none⟩) ((F hd).length + 1) cs.length) else m y), _, addC cl F hd) (HeadP.of [] ⟨rfl, rfl, rfl, rfl, rfl, rfl, trivial⟩ ⟨rfl, rfl, rfl, rfl, rfl, trivial⟩) ⟨by show j + 1 ≤ hn; omega, ?_⟩ (by simp only; omega)
            dsimp only
            rw [htk, List.foldl_append]
            refine ⟨?_, hfi, f3 _, addC_rng hok.rg hdr, ?_, fun y => ?_⟩
            · show addC cl F hd = addC cl _ hd
              rw [← hok.f]
            · have h1 := hok.sz
              have h2 := putE_size es ck (I hd) (.slice (some ⟨b2, 0, none⟩) ((F hd).length + 1) cs.length) kr
              show (putE es ck (I hd) (.slice (some ⟨b2, 0, none⟩) ((F hd).length + 1) cs.length) kr).1.size ≤ _
              omega
            · have h1 := hok.ln y
              have h2 := addC_len cl F hd y
              show (addC cl F hd y).length ≤ _
              omega
          · refine AppnP.mk (fun b3 cap rest g1 g2 g3 g4 => W.mk ?_)
            have hl2 : (cs.take ((F hd).length * 1) ++ [I cl] ++ rest).length = cap := by simp; omega
            have hfi := FoundIs.put hok.fi (x := hd) (c := cl) (b := b3) (cs := cs.take ((F hd).length * 1) ++ [I cl] ++ rest) hct (.inl g1) (by rw [hl2]; exact g2) (by rw [hl2]; exact g3) (by rw [htk1, List.take_append_of_le_length (by simp), List.take_of_length_le (by simp)]; simp)
            rw [hl2] at hfi
            (conv => whnf)
            refine KeyP.mk ⟨_, f1, W.mk ?_⟩
            (conv => whnf)
            (refine OblP.mk ?_ (W.mk ?_); (first | trivial | omega | (simp only [inR]; omega) | exact Nat.le_of_ble_eq_true (by rfl) | exact SlR.some (by assumption) (by omega)); (conv => whnf))
            refine RoundP.of (j + 1, _, _, (fun y => if y = hd then some (.slice (some ⟨b3, 0, none⟩) ((F hd).length + 1) cap) else m y), _, addC cl F hd) (HeadP.of [] ⟨rfl, rfl, rfl, rfl, rfl, rfl, trivial⟩ ⟨rfl, rfl, rfl, rfl, rfl, trivial⟩) ⟨by show j + 1 ≤ hn; omega, ?_⟩ (by simp only; omega)
            dsimp only
            rw [htk, List.foldl_append]
            refine ⟨?_, hfi, f3 _, addC_rng hok.rg hdr, ?_, fun y => ?_⟩
            · show addC cl F hd = addC cl _ hd
              rw [← hok.f]
            · have h1 := hok.sz
              have h2 := putE_size es ck (I hd) (.slice (some ⟨b3, 0, none⟩) ((F hd).length + 1) cap) kr
              show (putE es ck (I hd) (.slice (some ⟨b3, 0, none⟩) ((F hd).length + 1) cap) kr).1.size ≤ _
              omega
            · have h1 := hok.ln y
              have h2 := addC_len cl F hd y
              show (addC cl F hd y).length ≤ _
              omega
      · have hje : j = wd.heads.length := by omega
        subst hje
        rw [List.take_length] at hok
        refine RoundR.of (k + 1, es, ck, m, p, F) [] ⟨rfl, rfl, rfl, rfl, trivial⟩ ⟨Nat.succ_le_of_lt hlt, ?_⟩ rfl
        dsimp only
        rw [htkO, List.foldl_append, hst]
        have h5 := hwf.1
        exact ⟨hok.f, hok.fi, hok.sm, hok.rg, (by have := hok.sz; show es.size ≤ _; omega), fun h => (by have := hok.ln h; show (F h).length ≤ _; omega)⟩
    · obtain ⟨k, es, ck, m, p, F⟩ := y
      obtain ⟨hkl, hok⟩ := hk
      dsimp only at hkl hok hke
      rw [List.length_map] at hke
      subst hke
      rw [List.take_length] at hok
      have hFF : F = colsF (rgOf r x) := hok.f
      have hszz := hok.sz
      dsimp only
      (conv => whnf)
      refine NameP.mk (fun mb => W.mk ?_)
      (conv => whnf)
      refine CallN.mk ⟨_, keys48 mb, body48, W.mk ?_⟩
      (conv => whnf)
      refine RelP.mk rfl (fun v G5 hg5 hq => W.mk ?_)
      obtain ⟨cb, rfl, hcb⟩ := hq
      (conv => whnf)
      refine CallN.mk ⟨_, sorted47 cb mb hok.sm (by omega), body47, W.mk ?_⟩
      (conv => whnf)
      refine StP.mk ⟨[(19, ⟨mb, false, .map es ck⟩)], ⟨rfl, trivial⟩, by simp, ⟨rfl, hcb, rfl⟩, fun v ns G6 hg6 hpost => W.mk ?_⟩
      obtain ⟨rfl, ka, kn, kc, ss, rfl, hks, hkl2, hasc⟩ := hpost
      have hss := hds_asc hasc hok.fi.no hok.rg
      have hsl : ss.length ≤ 100 := by
        rw [hss, hdsF]
        exact Nat.le_trans (List.length_filter_le _ _) (by simp)
      have hkv : SlR intE.k intE.R G6 ka kn kc ss := hks.sl (mapI_flat _) hkl2
      (conv => whnf)
      refine LoopP.of { α := Nat × List Value, fr := fun y => [(8, .c (.ptr 20 0)), (13, .c (.row 1 y.1)), (63, .v (.slice ka kn kc)), (64, .v (I kn)), (65, .v (I y.1))], H := fun y => [(0, .heap p), (19, .map (.named mb) es ck), (20, .cells .anon [.mref 19] 100), (1, .row none y.1 y.2 47 2)], ok := fun y _ => y.1 ≤ kn ∧ Row enE ((ss.take y.1).map (rawEn m)) y.1 y.2, m := fun y => kn - y.1 }
        (0, []) (HeadP.of [(1, none)] ⟨rfl, rfl, rfl, rfl, rfl, trivial⟩ ⟨rfl, rfl, rfl, rfl, trivial⟩) ⟨Nat.zero_le _, Row.nil⟩ (fun _ => ⟨rfl, rfl⟩) (fun y G7 hg7 hx => W.mk ?_)
      obtain ⟨i, vs⟩ := y
      obtain ⟨hi, hrow⟩ := hx
      dsimp only at hi hrow
      have hkv7 : SlR intE.k intE.R G7 ka kn kc ss := SlR.grow (G := G6) (G' := G7) (fun _ _ h => h) hkv hg7
      dsimp only
      (conv => whnf)
      refine IteP.mk (fun hlt => W.mk ?_) (fun hge => W.mk ?_) <;> (conv => whnf)
      · have hlt : i < ss.length := by omega
        have hc := hkv7.el hlt
        have hmem := (hasc.mem ss[i]).1 (List.getElem_mem hlt)
        have htk := take_snoc (List.getElem?_eq_getElem hlt)
        generalize ss[i] = hd at hc hmem htk
        have hdr := hok.rg hd (fun e => hmem ((hok.fi.no hd).2 e))
        repeat' (first | (refine OblP.mk ?_ (W.mk ?_); (first | trivial | omega | (simp only [inR]; omega) | exact Nat.le_of_ble_eq_true (by rfl) | exact SlR.some (by assumption) (by omega)); (conv => whnf)) | (first | (refine RdP.at (by assumption) (by rfl) (W.mk ?_); (conv => whnf)) | (refine RdP.sub (by assumption) (by rfl) (W.mk ?_); (conv => whnf)) | (refine RdP.sub2 (by assumption) (by rfl) (W.mk ?_); (conv => whnf)) | (refine RdP.sub3 (by assumption) (by rfl) (W.mk ?_); (conv => whnf))))
        obtain ⟨kr, f1, f2, f3⟩ := hok.sm.find (x := hd) (by simp only [inR]; omega)
        refine KeyP.mk ⟨_, f1, W.mk ?_⟩
        obtain ⟨v, hm2⟩ := Option.ne_none_iff_exists'.1 hmem
        obtain ⟨b2, cs, rfl, hpb, hle, hmx, htake⟩ := hok.fi.at_ hd v hm2
        dsimp only
        rw [f2, hm2]
        dsimp only [lookD]
        (conv => whnf)
        repeat' (first | (refine OblP.mk rfl (W.mk ?_); (conv => whnf)) | (refine OblP.mk ?_ (W.mk ?_); (first | trivial | omega | (simp only [inR]; omega) | exact Nat.le_of_ble_eq_true (by rfl) | exact SlR.some (by assumption) (by omega)); (conv => whnf)) | (first | (refine RdP.at (by assumption) (by rfl) (W.mk ?_); (conv => whnf)) | (refine RdP.sub (by assumption) (by rfl) (W.mk ?_); (conv => whnf)) | (refine RdP.sub2 (by assumption) (by rfl) (W.mk ?_); (conv => whnf)) | (refine RdP.sub3 (by assumption) (by rfl) (W.mk ?_); (conv => whnf))))
        refine RoundP.of (i + 1, vs ++ [I hd, .slice (some ⟨b2, 0, none⟩) (F hd).length cs.length]) (HeadP.of [(1, some 78)] ⟨rfl, rfl, rfl, rfl, rfl, trivial⟩ ⟨rfl, rfl, rfl, rfl, trivial⟩) ⟨by show i + 1 ≤ kn; omega, ?_⟩ (by simp only; omega)
        dsimp only
        rw [htk, List.map_append]
        exact hrow.snoc (rawEn m hd) (by simp only [rawEn, hm2]; rfl)
      · have hie : i = ss.length := by omega
        subst hie
        rw [List.take_length] at hrow
        refine PubAnyP.mk ⟨[0], fun G8 hg8 hp8 => W.mk ?_⟩
        (conv => whnf)
        refine PubP.mk (fun a1 c1 G9 hg9 hp => W.mk ?_)
        (conv => whnf)
        refine FinP.mk ⟨_, (by show Value.tuple #[_, I 0] = .tuple #[_, I (faultX r x)]; rw [h1]), ?_⟩
        rw [if_pos h1]
        obtain ⟨_, _, _, q1, q2, q3⟩ := hrow.pub hp (by omega)
        cases q1
        refine ⟨_, _, _, rfl, SlR.mapEn q2 (by rw [indexF, ← hFF, ← hss]; simp) fun i k1 k2 => ?_, q3⟩
        have k3 : i < ss.length := by simpa using k1
        have e1 : (indexF r x)[i] = ⟨ss[i], F ss[i]⟩ := by simp only [indexF, ← hFF, ← hss, List.getElem_map]
        have e2 : (ss.map (rawEn m))[i] = rawEn m ss[i] := by simp
        rw [e1, e2]
        exact hok.fi.read (fun b o h => hg9 _ _ (hp8 b o h)) ((hasc.mem _).1 (List.getElem_mem k3)) (by have := hok.ln ss[i]; omega)
end Go.Proofs.Ytpcpjmplgladmaa
