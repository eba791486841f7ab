/- The law of who is relieved: walked. -/
import Derived.Test.YtcmhpndhloplpaaMI
namespace Go.Proofs.Ytcmhpndhloplpaa
open Go.Pal

set_option maxRecDepth 100000
set_option maxHeartbeats 4000000

theorem cutDrop {α : Type} {e : El α} {G : Hp} {a : Option Addr} {n c : Nat} {l : List α} (h : SlR e.k e.R G a n c l) (h1 : 1 ≤ n) (hn : n ≤ 140737488355328) : SlV e G (.slice (cutA a (1 : Int).toNat (c : Int).toNat e.k) ((n : Int).toNat - (1 : Int).toNat) ((c : Int).toNat - (1 : Int).toNat)) (l.drop 1) := by
  have hl := h.len
  have hcap := h.cap
  have ha := h.some (by omega)
  have e1 : n ≠ 1 → cutA a (1 : Int).toNat (c : Int).toNat e.k = some ⟨ab a, ao a + e.k, none⟩ := fun h0 => by
    unfold cutA
    rw [if_neg (by simp; omega)]
    have : a.map (·.add (1 * e.k)) = some ⟨ab a, ao a + e.k, none⟩ := by
      conv => lhs; rw [ha]
      show some ((⟨ab a, ao a, none⟩ : Addr).add (1 * e.k)) = _
      rw [addr_add, Nat.one_mul]
    exact this
  refine ⟨_, _, _, rfl, ⟨by simp; omega, by simp; omega, fun h0 => ?_, fun j hj => ?_⟩, by simp; omega⟩
  · rw [e1 (by simp at h0; omega)]; rfl
  · have hj' : j + 1 < l.length := by simp at hj; omega
    rw [e1 (by omega)]
    obtain ⟨cs, q1, q2, q3⟩ := h.at_ (j + 1) hj'
    refine ⟨cs, q1, ?_, by rw [List.getElem_drop]; simp only [Nat.add_comm 1 j]; exact q3⟩
    have e : ao a + (j + 1) * e.k = ao a + e.k + j * e.k := by rw [Nat.add_mul]; omega
    rw [e] at q2; exact q2
def leftF (x : Wk) (l : List Int) (k m : Int) (nb i : Nat) : List Int := ((List.range' i (nb - i)).filter (openB x l k m)).map fun i : Nat => (i : Int)
theorem left_open {x : Wk} {l : List Int} {k m : Int} {nb : Nat} : openF x l k m nb = leftF x l k m nb 0 := by
  rw [openF, leftF, List.range_eq_range', Nat.sub_zero]
theorem left_step {x : Wk} {l : List Int} {k m : Int} {nb i : Nat} (h : i < nb) : leftF x l k m nb i = (if openB x l k m i = true then [(i : Int)] else []) ++ leftF x l k m nb (i + 1) := by
  have e : nb - i = (nb - (i + 1)) + 1 := by omega
  rw [leftF, e, List.range'_succ, List.filter_cons]
  split <;> rfl
theorem left_end {x : Wk} {l : List Int} {k m : Int} {nb i : Nat} (h : nb ≤ i) : leftF x l k m nb i = [] := by
  rw [leftF, show nb - i = 0 by omega]; rfl
theorem before_lt {m : Int} : ∀ {t : List Span} {i : Nat} (h : i < t.length), i < beforeF m t → t[i].fr < m
  | p :: r, i, h, hb => by
    simp only [beforeF, List.takeWhile_cons] at hb
    split at hb
    · rename_i hp
      cases i with
      | zero => simpa using hp
      | succ i => exact before_lt (t := r) (by simpa using h) (by simpa [beforeF] using hb)
    · simp at hb
theorem before_le {m : Int} {t : List Span} : beforeF m t ≤ t.length := by
  induction t with
  | nil => simp [beforeF]
  | cons p r ih => simp only [beforeF, List.takeWhile_cons] at *; split <;> simp <;> omega
theorem before_ge {m lo : Int} : ∀ {t : List Span} {lo : Int} {i : Nat} (h : i < t.length), chain lo t → beforeF m t ≤ i → m ≤ t[i].fr
  | p :: r, lo, i, h, hc, hb => by
    simp only [beforeF, List.takeWhile_cons] at hb
    split at hb
    · cases i with
      | zero => simp at hb
      | succ i => exact before_ge (lo := lo) (t := r) (by simpa using h) hc.2.2 (by simpa [beforeF] using hb)
    · rename_i hp
      have h0 : m ≤ p.fr := by simpa using hp
      cases i with
      | zero => exact h0
      | succ i =>
        have := chain_le hc (show 0 < i + 1 by omega) h
        have h2 := hc.2.1
        simp only [List.getElem_cons_zero] at this
        omega
theorem law8 : Sound Try.prog 8 id (gsca (fun args G (x : Sit × Off × Nat × Nat) => ∃ v0 v1 v2 v3, args = [v0, v1, v2, v3] ∧ SitU G v0 x.1 ∧ OffU G v1 x.2.1 ∧ u8Rd.R G v2 x.2.2.1 ∧ u16Rd.R G v3 x.2.2.2) fun _ v => v = .bool true) := by
  refine comp8.gsca tabW (fun args G s h => ?_) (fun args G x h => ?_)
  · obtain ⟨_, _, _, _, rfl, _⟩ := h; simp
  · obtain ⟨s, o, wh, wo⟩ := x
    obtain ⟨v0, v1, v2, v3, rfl, ⟨w1, rfl, a, n, c, rfl, hl⟩, ⟨w2, rfl, a2, n2, c2, rfl, hl2⟩, ⟨rfl, hw⟩, ⟨rfl, hwo⟩⟩ := h
    have e1 := hl.len
    have e2 := hl2.len
    dsimp only at hl hl2 e1 e2 hw hwo
    dsimp only
    (conv => whnf)
    refine ScaP.g (ok2 sitU offU fun _ _ => True) (x := (s, o)) ⟨_, _, rfl, ⟨_, rfl, a, n, c, rfl, hl⟩, ⟨_, rfl, a2, n2, c2, rfl, hl2⟩, trivial⟩ (fun v hv => W.mk ?_)
    subst hv
    (conv => whnf)
    refine ForkP.mk (fun hready => W.mk ?_) (fun hready => W.mk ?_) <;> (conv => whnf)
    rotate_left
    · (refine ScaP.g okU (G := fun _ => none) (x := ()) rfl (fun v hv => W.mk ?_); subst hv; (conv => whnf); refine ForkP.mk (fun _ => W.mk ?_) (fun h => by cases h); (conv => whnf); exact FinP.mk rfl)
    · have hready : readyF s o = true := hready
      simp only [readyF, thinF, Bool.and_eq_true, decide_eq_true_eq] at hready
      obtain ⟨⟨hps, hcr⟩, he⟩ := hready
      obtain ⟨hvS, ht, ho⟩ := err0 he
      obtain ⟨hf, hc, _⟩ := fine0 he
      have hcalm := valid_calm hvS
      have hS0 : SitV G (.agg #[I s.len, .slice a n c, I s.long, I s.short]) s := ⟨_, rfl, a, n, c, rfl, hl, by omega⟩
      have hO0 : OffV G (.agg #[.slice a2 n2 c2, I o.due, I o.delay]) o := ⟨_, rfl, a2, n2, c2, rfl, hl2, by omega⟩
      have hps1 : s.ps.length ≤ 1000 := by omega
      have hcr1 : o.crew.length ≤ 1000 := by omega
      have hg0 := Grow.refl G
      have hs36 := (validF_iff.1 hvS).2.1
      refine RelP.g (ok1 sitRd fun s => s.ps.length ≤ 1000) (x := s) ⟨_, rfl, sitRd.grow hg0 hS0, hps1⟩ (Grow.refl _) (fun v G1 h1 hq => W.mk ?_); have hg1 := hg0.trans h1; have s1 := hq; obtain ⟨w1, rfl, _⟩ := hq; (conv => whnf)
      refine RelP.g (ok1 offRd fun o => o.crew.length ≤ 1000) (x := o) ⟨_, rfl, offRd.grow hg1 hO0, hcr1⟩ (Grow.refl _) (fun v G2 h2 hq => W.mk ?_); have hg2 := hg1.trans h2; have o2 := hq; obtain ⟨w2, rfl, _⟩ := hq; (conv => whnf)
      refine RelP.g (ok2 sitRd offRd fun s _ => Calm s) (x := (s, o)) ⟨_, _, rfl, sitRd.grow h2 s1, o2, hcalm⟩ (Grow.refl _) (fun v G3 h3 hq => W.mk ?_)
      have hg3 := hg2.trans h3
      obtain ⟨w3, rfl, hq⟩ := hq
      dsimp only at hq
      dsimp only
      by_cases hR : rotaE s o = 0
      rotate_left
      · have h9 : rotaE s o = 9 := (rotaE_or he).resolve_left hR
        rw [if_neg hR] at hq
        subst hq
        rw [h9]
        (conv => whnf)
        refine IteP.mk (fun h => by cases h) (fun _ => W.mk ?_)
        (conv => whnf)
        refine IteP.mk (fun _ => W.mk ?_) (fun h => absurd rfl h)
        (conv => whnf)
        (refine ScaP.g okU (G := fun _ => none) (x := ()) rfl (fun v hv => W.mk ?_); subst hv; (conv => whnf); refine ForkP.mk (fun _ => W.mk ?_) (fun h => by cases h); (conv => whnf); exact FinP.mk rfl)
      · rw [if_pos hR] at hq
        have hQ3 := hq
        obtain ⟨a3, n3, c3, rfl, l3, hn3⟩ := hq
        rw [hR]
        have hfar0 : ¬ farthestF (wkF s o) [] (-1) < (takesF s).length := fun h => by rw [rotaE, if_pos he, if_pos h] at hR; cases hR
        obtain ⟨hli, hri⟩ := rest_right (x := wkF s o) hfar0
        obtain ⟨hlen, hrun⟩ := right_run.1 ⟨hli, hri⟩
        have hli : listedF (wkF s o) (rotaF s o) = true := hli
        have hri : rightF (wkF s o) (rotaF s o) = true := hri
        have hlen : (rotaF s o).length = (takesF s).length := hlen
        have hrun : Run (wkF s o) (-1) startF (rotaF s o) := hrun
        have e3 : (rotaF s o).length = n3 := l3.len
        generalize rotaF s o = r at hQ3 l3 hli hri hlen hrun e3
        (conv => whnf)
        refine IteP.mk (fun _ => W.mk ?_) (fun h => absurd rfl h)
        (conv => whnf)
        repeat' (refine OblP.mk ?_ (W.mk ?_); (first | trivial | omega | (simp only [inR]; omega) | exact Nat.le_of_ble_eq_true (by rfl) | exact SlR.some (by assumption) (by omega)); (conv => whnf))
        obtain ⟨k, hk⟩ : ∃ k : Nat, (wh : Int) % (n2 : Int) = k := ⟨((wh : Int) % (n2 : Int)).toNat, by have := Int.emod_nonneg (wh : Int) (show (n2 : Int) ≠ 0 by omega); omega⟩
        have hk2 : (k : Int) < n2 := by rw [← hk]; exact Int.emod_lt_of_pos _ (by omega)
        obtain ⟨m, hm⟩ : ∃ m : Nat, (wo : Int) % (s.len + 1) = m := ⟨((wo : Int) % (s.len + 1)).toNat, by have := Int.emod_nonneg (wo : Int) (show s.len + 1 ≠ 0 by omega); omega⟩
        have hm2 : (m : Int) < s.len + 1 := by rw [← hm]; exact Int.emod_lt_of_pos _ (by omega)
        rw [hk, hm]
        refine RelP.g (ok1 sitRd fun s => s.ps.length ≤ 1000) (x := s) ⟨_, rfl, sitRd.grow hg3 hS0, hps1⟩ (Grow.refl _) (fun v G4 h4 hq => W.mk ?_); have hg4 := hg3.trans h4; have s4 := hq; obtain ⟨w4, rfl, _⟩ := hq; (conv => whnf)
        refine RelP.g (ok1 offRd fun o => o.crew.length ≤ 1000) (x := o) ⟨_, rfl, offRd.grow hg4 hO0, hcr1⟩ (Grow.refl _) (fun v G5 h5 hq => W.mk ?_); have hg5 := hg4.trans h5; have o5 := hq; obtain ⟨w5, rfl, _⟩ := hq; (conv => whnf)
        refine RelP.g (ok1 (slRd intE) fun l => l.length ≤ 8796093022207) (x := r) ⟨_, rfl, hQ3.grow (h4.trans h5), (by omega)⟩ (Grow.refl _) (fun v G6 h6 hq => W.mk ?_); have hg6 := hg5.trans h6; have r6 := hq; obtain ⟨a6, n6, c6, rfl, l6, hn6⟩ := hq; (conv => whnf)
        refine RelP.g (ok5 sitRd offRd (slRd intE) intRd intRd fun s _ _ _ _ => Calm s) (x := (s, o, r, (k : Int), (m : Int))) ⟨_, _, _, _, _, rfl, sitRd.grow (h5.trans h6) s4, offRd.grow h6 o5, r6, rfl, rfl, hcalm⟩ (Grow.refl _) (fun v G7 h7 hq => W.mk ?_)
        have hg7 := hg6.trans h7
        obtain ⟨w7, u7, rfl, hq⟩ := hq
        dsimp only at hq
        dsimp only
        have hE : relE s o r k m = if (relA (wkF s o) r k m).length < (takesF s).length then 7 else 0 := by
          rw [relE, if_pos he, if_pos hli, if_pos hri, if_pos]
          simp only [inF, decide_eq_true_eq]; omega
        by_cases hE0 : relE s o r k m = 0
        rotate_left
        · have h7' : relE s o r k m = 7 := by
            rw [hE] at hE0 ⊢
            split at hE0
            · rename_i h; rw [if_pos h]
            · exact absurd rfl hE0
          rw [if_neg hE0] at hq
          obtain ⟨rfl, rfl⟩ := hq
          rw [h7']
          (conv => whnf)
          refine IteP.mk (fun h => by cases h) (fun _ => W.mk ?_)
          (conv => whnf)
          refine IteP.mk (fun _ => W.mk ?_) (fun h => absurd rfl h)
          (conv => whnf)
          (refine ScaP.g okU (G := fun _ => none) (x := ()) rfl (fun v hv => W.mk ?_); subst hv; (conv => whnf); refine ForkP.mk (fun _ => W.mk ?_) (fun h => by cases h); (conv => whnf); exact FinP.mk rfl)
        · rw [if_pos hE0] at hq
          rw [hE0]
          have hnl : ¬ (relA (wkF s o) r k m).length < (wkF s o).t.length := fun h => by
            have h : (relA (wkF s o) r k m).length < (takesF s).length := h
            rw [hE, if_pos h] at hE0; cases hE0
          have hbl : beforeF m (takesF s) ≤ (takesF s).length := before_le
          have htl : (r.take (beforeF m (takesF s))).length = beforeF m (takesF s) := by simp; omega
          obtain ⟨⟨k1, k2⟩, k3, k4, k5⟩ := rest_on (x := wkF s o) (l := r.take (beforeF m (takesF s))) (skip := k) hnl (by rw [htl]; exact hbl) (run_append.1 (by rw [List.take_append_drop]; exact hrun)).1
          rw [htl] at k4 k5
          have hArw : restF (wkF s o) (r.take (beforeF m (takesF s))) k = relA (wkF s o) r k m := rfl
          rw [hArw] at k1 k2 k3 k4 k5
          generalize relA (wkF s o) r k m = A at hq hnl k1 k2 k3 k4 k5 hE
          have k3 : A.length = (takesF s).length := k3
          obtain ⟨hq1, hq2⟩ := hq
          have hA7 := hq1
          have hO7 := hq2
          obtain ⟨a7, n7, c7, rfl, l7, hn7⟩ := hq1
          obtain ⟨b7, p7, d7, rfl, t7, hp7⟩ := hq2
          have e7 : A.length = n7 := l7.len
          (conv => whnf)
          refine IteP.mk (fun _ => W.mk ?_) (fun h => absurd rfl h)
          (conv => whnf)
          refine RelP.g (ok1 sitRd fun s => s.ps.length ≤ 1000) (x := s) ⟨_, rfl, sitRd.grow hg7 hS0, hps1⟩ (Grow.refl _) (fun v G8 h8 hq => W.mk ?_); have hg8 := hg7.trans h8; have s8 := hq; obtain ⟨w8, rfl, _⟩ := hq; (conv => whnf)
          refine RelP.g (ok1 sitRd fun s => Calm s) (x := s) ⟨_, rfl, s8, hcalm⟩ (Grow.refl _) (fun v G9 h9 hq => W.mk ?_)
          have hg9 := hg8.trans h9
          obtain ⟨w9, rfl, hq⟩ := hq
          have hft : faultF s = 0 := by rw [faultF, if_pos hvS, if_neg (by omega)]
          rw [if_pos hft] at hq
          rw [hft]
          obtain ⟨a9, n9, c9, rfl, l9, hn9⟩ := hq
          have e9 : (takesF s).length = n9 := l9.len
          (conv => whnf)
          iterate 3 (refine IteP.mk (fun _ => W.mk ?_) (fun h => absurd (by omega) h); (conv => whnf))
          refine RelP.g (ok1 sitRd fun s => s.ps.length ≤ 1000) (x := s) ⟨_, rfl, sitRd.grow hg9 hS0, hps1⟩ (Grow.refl _) (fun v G10 h10 hq => W.mk ?_); have hg10 := hg9.trans h10; have s10 := hq; obtain ⟨w10, rfl, _⟩ := hq; (conv => whnf)
          refine RelP.g (ok1 offRd fun o => o.crew.length ≤ 1000) (x := o) ⟨_, rfl, offRd.grow hg10 hO0, hcr1⟩ (Grow.refl _) (fun v G11 h11 hq => W.mk ?_); have hg11 := hg10.trans h11; have o11 := hq; obtain ⟨w11, rfl, _⟩ := hq; (conv => whnf)
          refine RelP.g (ok1 (slRd intE) fun l => l.length ≤ 8796093022207) (x := A) ⟨_, rfl, hA7.grow (((h8.trans h9).trans h10).trans h11), (by omega)⟩ (Grow.refl _) (fun v G12 h12 hq => W.mk ?_); have hg12 := hg11.trans h12; have r12 := hq; obtain ⟨a12, n12, c12, rfl, l12, hn12⟩ := hq; (conv => whnf)
          refine ScaP.g (ok3 sitRd offRd (slRd intE) fun s _ _ => Calm s) (x := (s, o, A)) ⟨_, _, _, rfl, sitRd.grow (h11.trans h12) s10, offRd.grow h12 o11, r12, hcalm⟩ (fun v hv => W.mk ?_)
          have hv : v = .bool true := hv.trans (congrArg Value.bool (by show proveF s o A = true; rw [proveF, decide_eq_true he, k1, k2]; rfl))
          subst hv
          (conv => whnf)
          refine ForkP.mk (fun _ => W.mk ?_) (fun h => by cases h)
          (conv => whnf)
          rw [left_open] at hO7 t7
          have hol : (leftF (wkF s o) r k m (beforeF m (takesF s)) 0).length ≤ 40 := by
            rw [← left_open, openF, List.length_map]
            exact Nat.le_trans (List.length_filter_le _ _) (by simp; omega)
          refine RelP.g (ok1 (slRd intE) fun l => l.length ≤ 8796093022207) (x := leftF (wkF s o) r k m (beforeF m (takesF s)) 0) ⟨_, rfl, hO7.grow (((((h8.trans h9).trans h10).trans h11).trans h12)), (by omega)⟩ (Grow.refl _) (fun v G13 h13 hq => W.mk ?_); have hg13 := hg12.trans h13; have r13 := hq; obtain ⟨a13, n13, c13, rfl, l13, hn13⟩ := hq; (conv => whnf)
          have h913 := ((h10.trans h11).trans h12).trans h13
          replace l9 := SlR.g l9 h913
          replace l7 := SlR.g l7 ((h8.trans h9).trans h913)
          replace l3 := SlR.g l3 ((((h4.trans h5).trans h6).trans h7).trans ((h8.trans h9).trans h913))
          replace hl2 := SlR.g hl2 hg13
          have hch : chain 0 (takesF s) := takes_chain hvS
          have hbd := takes_bd hvS
          have hkc : k < o.crew.length := by omega
          have hmemr : ∀ j ∈ r, 0 ≤ j ∧ j < n2 := fun j hj => by have := run_mem hrun j hj; simp only [wkF] at this; omega
          have hfr := ho
          simp only [validO, Bool.and_eq_true, inF, decide_eq_true_eq, List.all_eq_true] at hfr
          obtain ⟨_, hfr, hdu, hde⟩ := hfr
          have hfk := hfr _ (List.getElem_mem hkc)
          simp only [fineR, inF, Bool.and_eq_true, decide_eq_true_eq] at hfk
          refine LoopP.of { α := Nat × Value, fr := fun x => [(4, .c (.ptr 0 0)), (5, .c (.ptr 1 0)), (9, .v (.slice a3 n3 c3)), (11, .v (I k)), (12, .v (I m)), (13, .v (.slice a7 n7 c7)), (16, .v (.slice a9 n9 c9)), (18, .v x.2), (19, .v (I x.1))], H := fun x => [(0, .cells .anon [.val (I s.len), .val (.slice a n c), .val (I s.long), .val (I s.short)] 24), (1, .cells .anon [.val (.slice a2 n2 c2), .val (I o.due), .val (I o.delay)] 45)], ok := fun x G => x.1 ≤ n9 ∧ SlV intE G x.2 (leftF (wkF s o) r k m (beforeF m (takesF s)) x.1), m := fun x => n9 - x.1 }
            (0, _) (HeadP.of [] ⟨rfl, rfl, rfl, rfl, rfl, rfl, rfl, rfl, rfl, trivial⟩ ⟨rfl, rfl, trivial⟩) ⟨Nat.zero_le _, r13⟩ (fun _ => ⟨rfl, rfl⟩) (fun x G14 h14 hx => W.mk ?_)
          obtain ⟨i, u⟩ := x
          obtain ⟨hi, hu⟩ := hx
          dsimp only at hi hu
          have hu0 := hu
          obtain ⟨ua, un, uc, rfl, ul, hun⟩ := hu
          replace l9 := SlR.g l9 h14
          replace l7 := SlR.g l7 h14
          replace l3 := SlR.g l3 h14
          replace hl2 := SlR.g hl2 h14
          dsimp only
          (conv => whnf)
          refine IteP.mk (fun hlt => W.mk ?_) (fun hge => W.mk ?_) <;> (conv => whnf)
          · have hit : i < (takesF s).length := by omega
            have hir : i < r.length := by omega
            have hiA : i < A.length := by omega
            have hc9 := l9.el hit
            have hc7 := l7.el hiA
            have hc3 := l3.el hir
            have hck := hl2.el hkc
            have hb := hbd _ (List.getElem_mem hit)
            have hgr : r.getD i 0 = r[i] := by simp [hir]
            have hgA : A.getD i 0 = A[i] := by simp [hiA]
            have hmul := mul_little (a := (takesF s)[i].to - (takesF s)[i].fr) (b := o.crew[k].hi) (by omega) ⟨by omega, by omega⟩
            have hdW : doneW (wkF s o) i k = (takesF s)[i].to + ((takesF s)[i].to - (takesF s)[i].fr) * o.crew[k].hi + o.delay := by
              rw [done_eq]
              have e1 : takeN (wkF s o) i = (takesF s)[i] := by simp [takeN, wkF, hit]
              have e2 : (wkF s o).o.crew.getD k ⟨0, 0, 0⟩ = o.crew[k] := by simp [wkF, hkc]
              rw [e1, e2]; rfl
            repeat' (first | (refine OblP.mk ?_ (W.mk ?_); (first | trivial | omega | (simp only [inR]; omega) | exact Nat.le_of_ble_eq_true (by rfl) | exact SlR.some (by assumption) (by omega)); (conv => whnf)) | (first | (refine RdP.at (by assumption) (by rfl) (W.mk ?_); (conv => whnf)) | (refine RdP.sub (by assumption) (by rfl) (W.mk ?_); (conv => whnf)) | (refine RdP.sub2 (by assumption) (by rfl) (W.mk ?_); (conv => whnf)) | (refine RdP.sub3 (by assumption) (by rfl) (W.mk ?_); (conv => whnf))))
            refine IteP.mk (fun hfr2 => W.mk ?_) (fun hfr2 => W.mk ?_) <;> (conv => whnf)
            · have hnb : beforeF m (takesF s) ≤ i := by
                rcases Nat.lt_or_ge i (beforeF m (takesF s)) with h | h
                · have := before_lt hit h; omega
                · exact h
              have hne := k5 i hnb (by show i < (takesF s).length; exact hit)
              rw [hgA] at hne
              repeat' (first | (refine OblP.mk ?_ (W.mk ?_); (first | trivial | omega | (simp only [inR]; omega) | exact Nat.le_of_ble_eq_true (by rfl) | exact SlR.some (by assumption) (by omega)); (conv => whnf)) | (first | (refine RdP.at (by assumption) (by rfl) (W.mk ?_); (conv => whnf)) | (refine RdP.sub (by assumption) (by rfl) (W.mk ?_); (conv => whnf)) | (refine RdP.sub2 (by assumption) (by rfl) (W.mk ?_); (conv => whnf)) | (refine RdP.sub3 (by assumption) (by rfl) (W.mk ?_); (conv => whnf))))
              refine IteP.mk (fun h => absurd h hne) (fun _ => W.mk ?_)
              (conv => whnf)
              repeat' (first | (refine OblP.mk ?_ (W.mk ?_); (first | trivial | omega | (simp only [inR]; omega) | exact Nat.le_of_ble_eq_true (by rfl) | exact SlR.some (by assumption) (by omega)); (conv => whnf)) | (first | (refine RdP.at (by assumption) (by rfl) (W.mk ?_); (conv => whnf)) | (refine RdP.sub (by assumption) (by rfl) (W.mk ?_); (conv => whnf)) | (refine RdP.sub2 (by assumption) (by rfl) (W.mk ?_); (conv => whnf)) | (refine RdP.sub3 (by assumption) (by rfl) (W.mk ?_); (conv => whnf))))
              refine RoundP.of (i + 1, _) (HeadP.of [] ⟨rfl, rfl, rfl, rfl, rfl, rfl, rfl, rfl, rfl, trivial⟩ ⟨rfl, rfl, trivial⟩) ⟨by show i + 1 ≤ n9; omega, ?_⟩ (by show n9 - (i + 1) < n9 - i; omega)
              rw [left_end hnb] at hu0
              show SlV intE G14 _ (leftF (wkF s o) r k m (beforeF m (takesF s)) (i + 1))
              rw [left_end (by omega)]; exact hu0
            · have hnb : i < beforeF m (takesF s) := by
                rcases Nat.lt_or_ge i (beforeF m (takesF s)) with h | h
                · exact h
                · have := before_ge (lo := 0) hit hch h; omega
              have hsame : A[i] = r[i] := by
                have := k4 i (by omega)
                rw [hgA] at this
                rw [this]
                simp [hnb, hir]
              have hst := left_step (x := wkF s o) (l := r) (k := k) (m := m) hnb
              have hopen : openB (wkF s o) r k m i = true ↔ r[i] = k ∧ (m : Int) < doneW (wkF s o) i k := by
                rw [openB, Bool.and_eq_true, decide_eq_true_eq, decide_eq_true_eq, hgr]
                simp
              rw [hdW] at hopen
              have fin0 : ∀ hb : ¬ openB (wkF s o) r k m i = true, SlV intE G14 (.slice ua un uc) (leftF (wkF s o) r k m (beforeF m (takesF s)) (i + 1)) := fun hb => by
                rw [hst, if_neg hb, List.nil_append] at hu0; exact hu0
              repeat' (first | (refine OblP.mk ?_ (W.mk ?_); (first | trivial | omega | (simp only [inR]; omega) | exact Nat.le_of_ble_eq_true (by rfl) | exact SlR.some (by assumption) (by omega)); (conv => whnf)) | (first | (refine RdP.at (by assumption) (by rfl) (W.mk ?_); (conv => whnf)) | (refine RdP.sub (by assumption) (by rfl) (W.mk ?_); (conv => whnf)) | (refine RdP.sub2 (by assumption) (by rfl) (W.mk ?_); (conv => whnf)) | (refine RdP.sub3 (by assumption) (by rfl) (W.mk ?_); (conv => whnf))))
              refine IteP.mk (fun hrk => W.mk ?_) (fun hrk => W.mk ?_) <;> (conv => whnf)
              · repeat' (first | (refine OblP.mk ?_ (W.mk ?_); (first | trivial | omega | (simp only [inR]; omega) | exact Nat.le_of_ble_eq_true (by rfl) | exact SlR.some (by assumption) (by omega)); (conv => whnf)) | (first | (refine RdP.at (by assumption) (by rfl) (W.mk ?_); (conv => whnf)) | (refine RdP.sub (by assumption) (by rfl) (W.mk ?_); (conv => whnf)) | (refine RdP.sub2 (by assumption) (by rfl) (W.mk ?_); (conv => whnf)) | (refine RdP.sub3 (by assumption) (by rfl) (W.mk ?_); (conv => whnf))))
                refine IteP.mk (fun hlate => W.mk ?_) (fun hlate => W.mk ?_) <;> (conv => whnf)
                · have hb : openB (wkF s o) r k m i = true := hopen.2 ⟨hrk, hlate⟩
                  have hL : leftF (wkF s o) r k m (beforeF m (takesF s)) i = (i : Int) :: leftF (wkF s o) r k m (beforeF m (takesF s)) (i + 1) := by rw [hst, if_pos hb]; rfl
                  rw [hL] at ul
                  have hun1 : 1 ≤ un := by have := ul.len; simp only [List.length_cons] at this; omega
                  have hcu : CellsAt G14 (ab ua) (ao ua + (0 : Int).toNat * intE.k) (intE.f (i : Int)) := ul.el (i := 0) (by simp)
                  repeat' (first | (refine OblP.mk ?_ (W.mk ?_); (first | trivial | omega | (simp only [inR]; omega) | exact Nat.le_of_ble_eq_true (by rfl) | exact SlR.some (by assumption) (by omega)); (conv => whnf)) | (first | (refine RdP.at (by assumption) (by rfl) (W.mk ?_); (conv => whnf)) | (refine RdP.sub (by assumption) (by rfl) (W.mk ?_); (conv => whnf)) | (refine RdP.sub2 (by assumption) (by rfl) (W.mk ?_); (conv => whnf)) | (refine RdP.sub3 (by assumption) (by rfl) (W.mk ?_); (conv => whnf))))
                  refine IteP.mk (fun _ => W.mk ?_) (fun h => absurd hsame h)
                  (conv => whnf)
                  refine IteP.mk (fun h => by exfalso; omega) (fun _ => W.mk ?_)
                  (conv => whnf)
                  repeat' (first | (refine OblP.mk ?_ (W.mk ?_); (first | trivial | omega | (simp only [inR]; omega) | exact Nat.le_of_ble_eq_true (by rfl) | exact SlR.some (by assumption) (by omega)); (conv => whnf)) | (first | (refine RdP.at (by assumption) (by rfl) (W.mk ?_); (conv => whnf)) | (refine RdP.sub (by assumption) (by rfl) (W.mk ?_); (conv => whnf)) | (refine RdP.sub2 (by assumption) (by rfl) (W.mk ?_); (conv => whnf)) | (refine RdP.sub3 (by assumption) (by rfl) (W.mk ?_); (conv => whnf))))
                  refine IteP.mk (fun _ => W.mk ?_) (fun h => absurd rfl h)
                  (conv => whnf)
                  have hcap := ul.cap
                  have hcd := cutDrop ul hun1 hun
                  repeat' (first | (refine OblP.mk ?_ (W.mk ?_); (first | trivial | omega | (simp only [inR]; omega) | exact Nat.le_of_ble_eq_true (by rfl) | exact SlR.some (by assumption) (by omega)); (conv => whnf)) | (first | (refine RdP.at (by assumption) (by rfl) (W.mk ?_); (conv => whnf)) | (refine RdP.sub (by assumption) (by rfl) (W.mk ?_); (conv => whnf)) | (refine RdP.sub2 (by assumption) (by rfl) (W.mk ?_); (conv => whnf)) | (refine RdP.sub3 (by assumption) (by rfl) (W.mk ?_); (conv => whnf))))
                  refine RoundP.of (i + 1, _) (HeadP.of [] ⟨rfl, rfl, rfl, rfl, rfl, rfl, rfl, rfl, rfl, trivial⟩ ⟨rfl, rfl, trivial⟩) ⟨by show i + 1 ≤ n9; omega, ?_⟩ (by show n9 - (i + 1) < n9 - i; omega)
                  exact hcd
                · have hb : ¬ openB (wkF s o) r k m i = true := fun h => hlate (hopen.1 h).2
                  have hfin := fin0 hb
                  repeat' (first | (refine OblP.mk ?_ (W.mk ?_); (first | trivial | omega | (simp only [inR]; omega) | exact Nat.le_of_ble_eq_true (by rfl) | exact SlR.some (by assumption) (by omega)); (conv => whnf)) | (first | (refine RdP.at (by assumption) (by rfl) (W.mk ?_); (conv => whnf)) | (refine RdP.sub (by assumption) (by rfl) (W.mk ?_); (conv => whnf)) | (refine RdP.sub2 (by assumption) (by rfl) (W.mk ?_); (conv => whnf)) | (refine RdP.sub3 (by assumption) (by rfl) (W.mk ?_); (conv => whnf))))
                  refine IteP.mk (fun _ => W.mk ?_) (fun h => absurd hsame h)
                  (conv => whnf)
                  repeat' (first | (refine OblP.mk ?_ (W.mk ?_); (first | trivial | omega | (simp only [inR]; omega) | exact Nat.le_of_ble_eq_true (by rfl) | exact SlR.some (by assumption) (by omega)); (conv => whnf)) | (first | (refine RdP.at (by assumption) (by rfl) (W.mk ?_); (conv => whnf)) | (refine RdP.sub (by assumption) (by rfl) (W.mk ?_); (conv => whnf)) | (refine RdP.sub2 (by assumption) (by rfl) (W.mk ?_); (conv => whnf)) | (refine RdP.sub3 (by assumption) (by rfl) (W.mk ?_); (conv => whnf))))
                  exact RoundP.of (i + 1, _) (HeadP.of [] ⟨rfl, rfl, rfl, rfl, rfl, rfl, rfl, rfl, rfl, trivial⟩ ⟨rfl, rfl, trivial⟩) ⟨by show i + 1 ≤ n9; omega, hfin⟩ (by show n9 - (i + 1) < n9 - i; omega)
              · have hb : ¬ openB (wkF s o) r k m i = true := fun h => hrk (hopen.1 h).1
                have hfin := fin0 hb
                repeat' (first | (refine OblP.mk ?_ (W.mk ?_); (first | trivial | omega | (simp only [inR]; omega) | exact Nat.le_of_ble_eq_true (by rfl) | exact SlR.some (by assumption) (by omega)); (conv => whnf)) | (first | (refine RdP.at (by assumption) (by rfl) (W.mk ?_); (conv => whnf)) | (refine RdP.sub (by assumption) (by rfl) (W.mk ?_); (conv => whnf)) | (refine RdP.sub2 (by assumption) (by rfl) (W.mk ?_); (conv => whnf)) | (refine RdP.sub3 (by assumption) (by rfl) (W.mk ?_); (conv => whnf))))
                refine IteP.mk (fun _ => W.mk ?_) (fun h => absurd hsame h)
                (conv => whnf)
                repeat' (first | (refine OblP.mk ?_ (W.mk ?_); (first | trivial | omega | (simp only [inR]; omega) | exact Nat.le_of_ble_eq_true (by rfl) | exact SlR.some (by assumption) (by omega)); (conv => whnf)) | (first | (refine RdP.at (by assumption) (by rfl) (W.mk ?_); (conv => whnf)) | (refine RdP.sub (by assumption) (by rfl) (W.mk ?_); (conv => whnf)) | (refine RdP.sub2 (by assumption) (by rfl) (W.mk ?_); (conv => whnf)) | (refine RdP.sub3 (by assumption) (by rfl) (W.mk ?_); (conv => whnf))))
                exact RoundP.of (i + 1, _) (HeadP.of [] ⟨rfl, rfl, rfl, rfl, rfl, rfl, rfl, rfl, rfl, trivial⟩ ⟨rfl, rfl, trivial⟩) ⟨by show i + 1 ≤ n9; omega, hfin⟩ (by show n9 - (i + 1) < n9 - i; omega)
          · have hun0 : un = 0 := by
              have := ul.len
              rw [left_end (by omega)] at this
              exact this.symm
            refine IteP.mk (fun _ => W.mk ?_) (fun h => absurd (by omega) h)
            (conv => whnf)
            (refine ScaP.g okU (G := fun _ => none) (x := ()) rfl (fun v hv => W.mk ?_); subst hv; (conv => whnf); refine ForkP.mk (fun _ => W.mk ?_) (fun h => by cases h); (conv => whnf); exact FinP.mk rfl)
end Go.Proofs.Ytcmhpndhloplpaa
