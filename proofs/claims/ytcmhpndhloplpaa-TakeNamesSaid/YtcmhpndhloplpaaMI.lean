/- The law of easier offices: walked. -/
import Derived.Test.YtcmhpndhloplpaaMH
namespace Go.Proofs.Ytcmhpndhloplpaa
open Go.Pal

set_option maxRecDepth 100000
set_option maxHeartbeats 4000000

theorem row_set {α : Type} {e : El α} : ∀ {l : List α} {n : Nat} {vs us : List Value} {j d : Nat} (hj : j < l.length), Row e l n vs → d < e.k → ∀ {x' : α} {v : Value}, e.f x' = (e.f l[j]).take d ++ [v] ++ (e.f l[j]).drop (d + 1) → us = vs.take (j * e.k + d) ++ [v] ++ vs.drop (j * e.k + d + 1) → Row e (l.set j x') n us
  | a :: r, n, vs, us, 0, d, hj, h, hd, x', v, hx, hu => by
    obtain ⟨rfl, rfl⟩ := h
    refine ⟨by simp, ?_⟩
    have hk := e.len a
    simp only [List.set_cons_zero, List.map_cons, List.flatten_cons, List.getElem_cons_zero] at hx ⊢
    rw [hu, hx]
    simp only [List.map_cons, List.flatten_cons, Nat.zero_mul, Nat.zero_add]
    rw [List.take_append_of_le_length (by omega), List.drop_append_of_le_length (by omega)]
    simp
  | a :: r, n, vs, us, j + 1, d, hj, h, hd, x', v, hx, hu => by
    obtain ⟨rfl, rfl⟩ := h
    have hk := e.len a
    have ih := row_set (l := r) (n := r.length) (vs := (r.map e.f).flatten) (us := (r.map e.f).flatten.take (j * e.k + d) ++ [v] ++ (r.map e.f).flatten.drop (j * e.k + d + 1)) (j := j) (d := d) (by simpa using hj) ⟨rfl, rfl⟩ hd (x' := x') (by simpa using hx) rfl
    refine ⟨by simp, ?_⟩
    have e1 : (j + 1) * e.k + d = (e.f a).length + (j * e.k + d) := by rw [hk, Nat.add_mul]; omega
    simp only [List.set_cons_succ, List.map_cons, List.flatten_cons]
    rw [← ih.vs, hu]
    simp only [List.map_cons, List.flatten_cons]
    rw [e1, Nat.add_assoc, List.take_length_add_append, List.drop_length_add_append]
    simp [Nat.add_assoc]
theorem Row.cell {α : Type} {e : El α} {l : List α} {n : Nat} {vs : List Value} (h : Row e l n vs) {j d : Nat} (hj : j < l.length) (hd : d < e.k) : (vs.drop (j * e.k + d)).take 1 = [(e.f l[j])[d]'(by rw [e.len]; exact hd)] := by
  have h1 := h.at hj
  have h2 : (vs.drop (j * e.k))[d]? = (e.f l[j])[d]? := by
    rw [← h1, List.getElem?_take, if_pos hd]
  rw [List.getElem?_eq_getElem (l := e.f l[j]) (by rw [e.len]; exact hd)] at h2
  rw [← List.drop_drop, List.take_one, List.head?_drop, h2]; rfl
theorem law6 : Sound Try.prog 6 id (gsca (fun args G (x : Sit × Off × Nat × Nat × Nat × Rep) => ∃ v0 v1 v2 v3 v4 v5, args = [v0, v1, v2, v3, v4, v5] ∧ SitU G v0 x.1 ∧ OffU G v1 x.2.1 ∧ u8Rd.R G v2 x.2.2.1 ∧ u8Rd.R G v3 x.2.2.2.1 ∧ u16Rd.R G v4 x.2.2.2.2.1 ∧ repRd.R G v5 x.2.2.2.2.2) fun _ v => v = .bool true) := by
  refine comp6.gsca tabW (fun args G s h => ?_) (fun args G x h => ?_)
  · obtain ⟨_, _, _, _, _, _, rfl, _⟩ := h; simp
  · obtain ⟨s, o, wh, at', by', more⟩ := x
    obtain ⟨v0, v1, v2, v3, v4, v5, rfl, ⟨w1, rfl, a, n, c, rfl, hl⟩, ⟨w2, rfl, a2, n2, c2, rfl, hl2⟩, ⟨rfl, hw⟩, ⟨rfl, hat⟩, ⟨rfl, hby⟩, rfl⟩ := h
    have e1 := hl.len
    have e2 := hl2.len
    dsimp only at hl hl2 e1 e2 hw hat hby
    dsimp only
    (conv => whnf)
    refine ScaP.g (ok2 sitU offU fun _ _ => True) (x := (s, o)) ⟨_, _, rfl, ⟨_, rfl, a, n, c, rfl, hl⟩, ⟨_, rfl, a2, n2, c2, rfl, hl2⟩, trivial⟩ (fun v hv => W.mk ?_)
    subst hv
    (conv => whnf)
    refine ForkP.mk (fun hready => W.mk ?_) (fun hready => W.mk ?_) <;> (conv => whnf)
    rotate_left
    · (refine ScaP.g okU (G := fun _ => none) (x := ()) rfl (fun v hv => W.mk ?_); subst hv; (conv => whnf); refine ForkP.mk (fun _ => W.mk ?_) (fun h => by cases h); (conv => whnf); exact FinP.mk rfl)
    · have hready : readyF s o = true := hready
      simp only [readyF, thinF, Bool.and_eq_true, decide_eq_true_eq] at hready
      obtain ⟨⟨hps, hcr⟩, he⟩ := hready
      obtain ⟨hvS, ht, ho⟩ := err0 he
      obtain ⟨hf, hc, _⟩ := fine0 he
      have hcalm := valid_calm hvS
      have hS0 : SitV G (.agg #[I s.len, .slice a n c, I s.long, I s.short]) s := ⟨_, rfl, a, n, c, rfl, hl, by omega⟩
      have hO0 : OffV G (.agg #[.slice a2 n2 c2, I o.due, I o.delay]) o := ⟨_, rfl, a2, n2, c2, rfl, hl2, by omega⟩
      have hps1 : s.ps.length ≤ 1000 := by omega
      have hcr1 : o.crew.length ≤ 1000 := by omega
      have hg0 := Grow.refl G
      obtain ⟨q1, q2, q3⟩ := hl2.all
      have hrow := Row.of_all (e := repE) o.crew e2
      generalize (o.crew.map repE.f).flatten = vs at q1 q2 q3 hrow
      refine OblP.mk (fun h => hl2.some h) (W.mk ?_); (conv => whnf)
      refine RdP.at q1 q2 (W.mk ?_); (conv => whnf)
      refine OblP.mk q3 (W.mk ?_); (conv => whnf)
      repeat' (refine OblP.mk ?_ (W.mk ?_); (first | trivial | omega | (simp only [inR]; omega) | exact Nat.le_of_ble_eq_true (by rfl) | exact SlR.some (by assumption) (by omega)); (conv => whnf))
      simp only [Nat.zero_add, List.nil_append]
      obtain ⟨j, hj⟩ : ∃ j : Nat, (at' : Int) % (n2 : Int) = j := ⟨((at' : Int) % (n2 : Int)).toNat, by have := Int.emod_nonneg (at' : Int) (show (n2 : Int) ≠ 0 by omega); omega⟩
      have hj2 : (j : Int) < n2 := by rw [← hj]; exact Int.emod_lt_of_pos _ (by omega)
      rw [hj]
      have hjc : j < o.crew.length := by omega
      repeat' (refine OblP.mk ?_ (W.mk ?_); (first | trivial | omega | (simp only [inR]; omega) | exact Nat.le_of_ble_eq_true (by rfl) | exact SlR.some (by assumption) (by omega)); (conv => whnf))
      have hfine := ho
      simp only [validO, Bool.and_eq_true, inF, decide_eq_true_eq, List.all_eq_true] at hfine
      obtain ⟨_, hfr, hdu, hde⟩ := hfine
      have hfj := hfr _ (List.getElem_mem hjc)
      simp only [fineR, inF, Bool.and_eq_true, decide_eq_true_eq] at hfj
      have hset : ∀ r : Rep, r.hi ≤ o.crew[j].hi → r.rest ≤ o.crew[j].rest → Easier o ⟨o.crew.set j r, o.due, o.delay⟩ := fun r h1 h2 => by
        refine ⟨by simp, fun i hi => ?_, Int.le_refl _, Int.le_refl _⟩
        by_cases hij : j = i
        · subst hij
          simp only [List.getD_eq_getElem?_getD, List.getElem?_set_self hjc, List.getElem?_eq_getElem hjc, Option.getD_some]
          exact ⟨h1, h2⟩
        · simp only [List.getD_eq_getElem?_getD, List.getElem?_set_ne hij]
          exact ⟨Int.le_refl _, Int.le_refl _⟩
      have hvl : vs.length = n2 * 3 := q2
      refine IteP.mk (fun hw0 => W.mk ?_) (fun hw0 => W.mk ?_) <;> (conv => whnf)
      · repeat' (refine OblP.mk ?_ (W.mk ?_); (first | trivial | omega | (simp only [inR]; omega) | exact Nat.le_of_ble_eq_true (by rfl) | exact SlR.some (by assumption) (by omega)); (conv => whnf))
        refine PubP.mk (fun pa pc G1 hp1 hp => W.mk ?_)
        obtain ⟨o', ho'⟩ : ∃ o' : Off, o' = ⟨o.crew, min 36000 (o.due + by'), o.delay⟩ := ⟨_, rfl⟩
        have hX1 : OffV G1 (.agg #[.slice pa (n2) pc, I (min 36000 (o.due + by')), I (o.delay)]) o' := by rw [ho']; exact ⟨_, rfl, Row.pub hrow hp (by omega)⟩
        have hg1 : Grow G G1 := hp1
        (conv => whnf)
        refine ScaP.g (ok1 offRd fun _ => True) (x := o') ⟨_, rfl, hX1, trivial⟩ (fun v hv => W.mk ?_)
        subst hv
        (conv => whnf)
        refine ForkP.mk (fun hval => W.mk ?_) (fun hval => W.mk ?_) <;> (conv => whnf)
        rotate_left
        · (refine ScaP.g okU (G := fun _ => none) (x := ()) rfl (fun v hv => W.mk ?_); subst hv; (conv => whnf); refine ForkP.mk (fun _ => W.mk ?_) (fun h => by cases h); (conv => whnf); exact FinP.mk rfl)
        have hval : validO o' = true := hval
        have hE : Easier o o' := by rw [ho']; exact ⟨Nat.le_refl _, fun i hi => ⟨Int.le_refl _, Int.le_refl _⟩, by show o.due ≤ min 36000 (o.due + by'); omega, Int.le_refl _⟩
        clear ho'
        have hc' : 1 ≤ o'.crew.length ∧ o'.crew.length ≤ 5 := by have h := hval; simp only [validO, Bool.and_eq_true, inF, decide_eq_true_eq] at h; omega
        have he' : errW s o' = 0 := by rw [errW, if_pos (by rw [faultF, if_pos hvS, if_neg (by omega)]), if_pos hval]
        have hpp : ∀ p ∈ (wkF s o).t, p.fr ≤ p.to := fun p hp => (takes_bd hvS p hp).2.1
        have hfar := easier_far (x := wkF s o) (x' := wkF s o') rfl hE hpp
        have hle := far_le (x := wkF s o') (l := []) (skip := -1) (Nat.zero_le _)
        have hle : farthestF (wkF s o') [] (-1) ≤ (takesF s).length := hle
        refine RelP.g (ok1 sitRd fun s => s.ps.length ≤ 1000) (x := s) ⟨_, rfl, sitRd.grow hg1 hS0, hps1⟩ (Grow.refl _) (fun v G2 h2 hq => W.mk ?_); have hg2 := hg1.trans h2; have s2 := hq; obtain ⟨w2, rfl, _⟩ := hq; (conv => whnf)
        refine RelP.g (ok1 offRd fun o => o.crew.length ≤ 1000) (x := o) ⟨_, rfl, offRd.grow hg2 hO0, hcr1⟩ (Grow.refl _) (fun v G3 h3 hq => W.mk ?_); have hg3 := hg2.trans h3; have o3 := hq; obtain ⟨w3, rfl, _⟩ := hq; (conv => whnf)
        refine RelP.g (ok2 sitRd offRd fun s _ => Calm s) (x := (s, o)) ⟨_, _, rfl, sitRd.grow h3 s2, o3, hcalm⟩ (Grow.refl _) (fun v G4 h4 hq => W.mk ?_)
        have hg4 := hg3.trans h4
        obtain ⟨w4, rfl, hq⟩ := hq
        dsimp only at hq
        dsimp only
        by_cases hR : rotaE s o = 0
        · rw [if_pos hR] at hq
          have hQ4 := hq
          obtain ⟨a4, n4, c4, rfl, l4, hn4⟩ := hq
          rw [hR]
          obtain ⟨er, hr1, hr2⟩ := (rota_run he).1 hR
          have hfar0 : ¬ farthestF (wkF s o) [] (-1) < (takesF s).length := fun h => by rw [rotaE, if_pos he, if_pos h] at hR; cases hR
          obtain ⟨hlen, hrun⟩ := right_run.1 (rest_right (x := wkF s o) hfar0)
          have hlen : (rotaF s o).length = (takesF s).length := hlen
          (conv => whnf)
          refine IteP.mk (fun _ => W.mk ?_) (fun h => absurd rfl h)
          (conv => whnf)
          refine RelP.g (ok1 sitRd fun s => s.ps.length ≤ 1000) (x := s) ⟨_, rfl, sitRd.grow hg4 hS0, hps1⟩ (Grow.refl _) (fun v G5 h5 hq => W.mk ?_); have hg5 := hg4.trans h5; have s5 := hq; obtain ⟨w5, rfl, _⟩ := hq; (conv => whnf)
          refine RelP.g (ok1 offRd fun o => o.crew.length ≤ 1000) (x := o') ⟨_, rfl, offRd.grow (((h2.trans h3).trans h4).trans h5) hX1, by omega⟩ (Grow.refl _) (fun v G6 h6 hq => W.mk ?_)
          have hg6 := hg5.trans h6
          have o6 := hq
          obtain ⟨w6, rfl, _⟩ := hq
          (conv => whnf)
          refine RelP.g (ok1 (slRd intE) fun l => l.length ≤ 8796093022207) (x := rotaF s o) ⟨_, rfl, hQ4.grow (h5.trans h6), (by omega)⟩ (Grow.refl _) (fun v G7 h7 hq => W.mk ?_); have hg7 := hg6.trans h7; have r7 := hq; obtain ⟨a7, n7, c7, rfl, l7, hn7⟩ := hq; (conv => whnf)
          refine ScaP.g (ok3 sitRd offRd (slRd intE) fun s _ _ => Calm s) (x := (s, o', rotaF s o)) ⟨_, _, _, rfl, sitRd.grow (h6.trans h7) s5, offRd.grow h7 o6, r7, hcalm⟩ (fun v hv => W.mk ?_)
          have hv : v = .bool true := hv.trans (congrArg Value.bool (prove_run.2 ⟨he', hlen, easier_run (x := wkF s o) (x' := wkF s o') rfl hE hpp hrun⟩))
          subst hv
          (conv => whnf)
          refine ForkP.mk (fun _ => W.mk ?_) (fun h => by cases h)
          (conv => whnf)
          (refine ScaP.g okU (G := fun _ => none) (x := ()) rfl (fun v hv => W.mk ?_); subst hv; (conv => whnf); refine ForkP.mk (fun _ => W.mk ?_) (fun h => by cases h); (conv => whnf); exact FinP.mk rfl)
        · have h9 : rotaE s o = 9 := (rotaE_or he).resolve_left hR
          rw [if_neg hR] at hq
          subst hq
          rw [h9]
          have hfe : failsE s o = 0 := by
            rw [failsE, if_pos he, if_neg]
            intro h
            rw [rotaE, if_pos he, if_neg (by omega)] at h9
            cases h9
          have hfv : failsV s o = farthestF (wkF s o) [] (-1) := by rw [failsV, if_pos hfe]
          (conv => whnf)
          refine IteP.mk (fun h => by cases h) (fun _ => W.mk ?_)
          (conv => whnf)
          refine RelP.g (ok1 sitRd fun s => s.ps.length ≤ 1000) (x := s) ⟨_, rfl, sitRd.grow hg4 hS0, hps1⟩ (Grow.refl _) (fun v G5 h5 hq => W.mk ?_); have hg5 := hg4.trans h5; have s5 := hq; obtain ⟨w5, rfl, _⟩ := hq; (conv => whnf)
          refine RelP.g (ok1 offRd fun o => o.crew.length ≤ 1000) (x := o) ⟨_, rfl, offRd.grow hg5 hO0, hcr1⟩ (Grow.refl _) (fun v G6 h6 hq => W.mk ?_); have hg6 := hg5.trans h6; have o6 := hq; obtain ⟨w6, rfl, _⟩ := hq; (conv => whnf)
          refine ScaP.g (ok2 sitRd offRd fun s _ => Calm s) (x := (s, o)) ⟨_, _, rfl, sitRd.grow h6 s5, o6, hcalm⟩ (fun v hv => W.mk ?_)
          subst hv
          dsimp only
          rw [hfe, hfv]
          (conv => whnf)
          refine RelP.g (ok1 sitRd fun s => s.ps.length ≤ 1000) (x := s) ⟨_, rfl, sitRd.grow hg6 hS0, hps1⟩ (Grow.refl _) (fun v G7 h7 hq => W.mk ?_); have hg7 := hg6.trans h7; have s7 := hq; obtain ⟨w7, rfl, _⟩ := hq; (conv => whnf)
          refine RelP.g (ok1 offRd fun o => o.crew.length ≤ 1000) (x := o') ⟨_, rfl, offRd.grow (((((h2.trans h3).trans h4).trans h5).trans h6).trans h7) hX1, by omega⟩ (Grow.refl _) (fun v G8 h8 hq => W.mk ?_)
          have hg8 := hg7.trans h8
          have o8 := hq
          obtain ⟨w8, rfl, _⟩ := hq
          (conv => whnf)
          refine ScaP.g (ok2 sitRd offRd fun s _ => Calm s) (x := (s, o')) ⟨_, _, rfl, sitRd.grow h8 s7, o8, hcalm⟩ (fun v hv => W.mk ?_)
          subst hv
          dsimp only
          (conv => whnf)
          refine IteP.mk (fun _ => W.mk ?_) (fun h => absurd rfl h)
          (conv => whnf)
          refine IteP.mk (fun _ => W.mk ?_) (fun h => absurd rfl h)
          (conv => whnf)
          refine IteP.mk (fun h7 => W.mk ?_) (fun h7 => W.mk ?_) <;> (conv => whnf)
          · (refine ScaP.g okU (G := fun _ => none) (x := ()) rfl (fun v hv => W.mk ?_); subst hv; (conv => whnf); refine ForkP.mk (fun _ => W.mk ?_) (fun h => by cases h); (conv => whnf); exact FinP.mk rfl)
          · have hf0 : failsE s o' = 0 := by
              rw [failsE, if_pos he'] at h7 ⊢
              split at h7
              · exact absurd rfl h7
              · rename_i h; rw [if_neg h]
            have hv0 : failsV s o' = farthestF (wkF s o') [] (-1) := by rw [failsV, if_pos hf0]
            refine IteP.mk (fun _ => W.mk ?_) (fun h => absurd hf0 h)
            (conv => whnf)
            rw [hv0]
            refine IteP.mk (fun _ => W.mk ?_) (fun h => absurd (by omega) h)
            (conv => whnf)
            (refine ScaP.g okU (G := fun _ => none) (x := ()) rfl (fun v hv => W.mk ?_); subst hv; (conv => whnf); refine ForkP.mk (fun _ => W.mk ?_) (fun h => by cases h); (conv => whnf); exact FinP.mk rfl)
      · repeat' (refine OblP.mk ?_ (W.mk ?_); (first | trivial | omega | (simp only [inR]; omega) | exact Nat.le_of_ble_eq_true (by rfl) | exact SlR.some (by assumption) (by omega)); (conv => whnf))
        refine IteP.mk (fun hw1 => W.mk ?_) (fun hw1 => W.mk ?_) <;> (conv => whnf)
        · repeat' (refine OblP.mk ?_ (W.mk ?_); (first | trivial | omega | (simp only [inR]; omega) | exact Nat.le_of_ble_eq_true (by rfl) | exact SlR.some (by assumption) (by omega)); (conv => whnf))
          refine PubP.mk (fun pa pc G1 hp1 hp => W.mk ?_)
          obtain ⟨o', ho'⟩ : ∃ o' : Off, o' = ⟨o.crew, o.due, max 0 (o.delay - by')⟩ := ⟨_, rfl⟩
          have hX1 : OffV G1 (.agg #[.slice pa (n2) pc, I (o.due), I (max 0 (o.delay - by'))]) o' := by rw [ho']; exact ⟨_, rfl, Row.pub hrow hp (by omega)⟩
          have hg1 : Grow G G1 := hp1
          (conv => whnf)
          refine ScaP.g (ok1 offRd fun _ => True) (x := o') ⟨_, rfl, hX1, trivial⟩ (fun v hv => W.mk ?_)
          subst hv
          (conv => whnf)
          refine ForkP.mk (fun hval => W.mk ?_) (fun hval => W.mk ?_) <;> (conv => whnf)
          rotate_left
          · (refine ScaP.g okU (G := fun _ => none) (x := ()) rfl (fun v hv => W.mk ?_); subst hv; (conv => whnf); refine ForkP.mk (fun _ => W.mk ?_) (fun h => by cases h); (conv => whnf); exact FinP.mk rfl)
          have hval : validO o' = true := hval
          have hE : Easier o o' := by rw [ho']; exact ⟨Nat.le_refl _, fun i hi => ⟨Int.le_refl _, Int.le_refl _⟩, Int.le_refl _, by show max 0 (o.delay - by') ≤ o.delay; omega⟩
          clear ho'
          have hc' : 1 ≤ o'.crew.length ∧ o'.crew.length ≤ 5 := by have h := hval; simp only [validO, Bool.and_eq_true, inF, decide_eq_true_eq] at h; omega
          have he' : errW s o' = 0 := by rw [errW, if_pos (by rw [faultF, if_pos hvS, if_neg (by omega)]), if_pos hval]
          have hpp : ∀ p ∈ (wkF s o).t, p.fr ≤ p.to := fun p hp => (takes_bd hvS p hp).2.1
          have hfar := easier_far (x := wkF s o) (x' := wkF s o') rfl hE hpp
          have hle := far_le (x := wkF s o') (l := []) (skip := -1) (Nat.zero_le _)
          have hle : farthestF (wkF s o') [] (-1) ≤ (takesF s).length := hle
          refine RelP.g (ok1 sitRd fun s => s.ps.length ≤ 1000) (x := s) ⟨_, rfl, sitRd.grow hg1 hS0, hps1⟩ (Grow.refl _) (fun v G2 h2 hq => W.mk ?_); have hg2 := hg1.trans h2; have s2 := hq; obtain ⟨w2, rfl, _⟩ := hq; (conv => whnf)
          refine RelP.g (ok1 offRd fun o => o.crew.length ≤ 1000) (x := o) ⟨_, rfl, offRd.grow hg2 hO0, hcr1⟩ (Grow.refl _) (fun v G3 h3 hq => W.mk ?_); have hg3 := hg2.trans h3; have o3 := hq; obtain ⟨w3, rfl, _⟩ := hq; (conv => whnf)
          refine RelP.g (ok2 sitRd offRd fun s _ => Calm s) (x := (s, o)) ⟨_, _, rfl, sitRd.grow h3 s2, o3, hcalm⟩ (Grow.refl _) (fun v G4 h4 hq => W.mk ?_)
          have hg4 := hg3.trans h4
          obtain ⟨w4, rfl, hq⟩ := hq
          dsimp only at hq
          dsimp only
          by_cases hR : rotaE s o = 0
          · rw [if_pos hR] at hq
            have hQ4 := hq
            obtain ⟨a4, n4, c4, rfl, l4, hn4⟩ := hq
            rw [hR]
            obtain ⟨er, hr1, hr2⟩ := (rota_run he).1 hR
            have hfar0 : ¬ farthestF (wkF s o) [] (-1) < (takesF s).length := fun h => by rw [rotaE, if_pos he, if_pos h] at hR; cases hR
            obtain ⟨hlen, hrun⟩ := right_run.1 (rest_right (x := wkF s o) hfar0)
            have hlen : (rotaF s o).length = (takesF s).length := hlen
            (conv => whnf)
            refine IteP.mk (fun _ => W.mk ?_) (fun h => absurd rfl h)
            (conv => whnf)
            refine RelP.g (ok1 sitRd fun s => s.ps.length ≤ 1000) (x := s) ⟨_, rfl, sitRd.grow hg4 hS0, hps1⟩ (Grow.refl _) (fun v G5 h5 hq => W.mk ?_); have hg5 := hg4.trans h5; have s5 := hq; obtain ⟨w5, rfl, _⟩ := hq; (conv => whnf)
            refine RelP.g (ok1 offRd fun o => o.crew.length ≤ 1000) (x := o') ⟨_, rfl, offRd.grow (((h2.trans h3).trans h4).trans h5) hX1, by omega⟩ (Grow.refl _) (fun v G6 h6 hq => W.mk ?_)
            have hg6 := hg5.trans h6
            have o6 := hq
            obtain ⟨w6, rfl, _⟩ := hq
            (conv => whnf)
            refine RelP.g (ok1 (slRd intE) fun l => l.length ≤ 8796093022207) (x := rotaF s o) ⟨_, rfl, hQ4.grow (h5.trans h6), (by omega)⟩ (Grow.refl _) (fun v G7 h7 hq => W.mk ?_); have hg7 := hg6.trans h7; have r7 := hq; obtain ⟨a7, n7, c7, rfl, l7, hn7⟩ := hq; (conv => whnf)
            refine ScaP.g (ok3 sitRd offRd (slRd intE) fun s _ _ => Calm s) (x := (s, o', rotaF s o)) ⟨_, _, _, rfl, sitRd.grow (h6.trans h7) s5, offRd.grow h7 o6, r7, hcalm⟩ (fun v hv => W.mk ?_)
            have hv : v = .bool true := hv.trans (congrArg Value.bool (prove_run.2 ⟨he', hlen, easier_run (x := wkF s o) (x' := wkF s o') rfl hE hpp hrun⟩))
            subst hv
            (conv => whnf)
            refine ForkP.mk (fun _ => W.mk ?_) (fun h => by cases h)
            (conv => whnf)
            (refine ScaP.g okU (G := fun _ => none) (x := ()) rfl (fun v hv => W.mk ?_); subst hv; (conv => whnf); refine ForkP.mk (fun _ => W.mk ?_) (fun h => by cases h); (conv => whnf); exact FinP.mk rfl)
          · have h9 : rotaE s o = 9 := (rotaE_or he).resolve_left hR
            rw [if_neg hR] at hq
            subst hq
            rw [h9]
            have hfe : failsE s o = 0 := by
              rw [failsE, if_pos he, if_neg]
              intro h
              rw [rotaE, if_pos he, if_neg (by omega)] at h9
              cases h9
            have hfv : failsV s o = farthestF (wkF s o) [] (-1) := by rw [failsV, if_pos hfe]
            (conv => whnf)
            refine IteP.mk (fun h => by cases h) (fun _ => W.mk ?_)
            (conv => whnf)
            refine RelP.g (ok1 sitRd fun s => s.ps.length ≤ 1000) (x := s) ⟨_, rfl, sitRd.grow hg4 hS0, hps1⟩ (Grow.refl _) (fun v G5 h5 hq => W.mk ?_); have hg5 := hg4.trans h5; have s5 := hq; obtain ⟨w5, rfl, _⟩ := hq; (conv => whnf)
            refine RelP.g (ok1 offRd fun o => o.crew.length ≤ 1000) (x := o) ⟨_, rfl, offRd.grow hg5 hO0, hcr1⟩ (Grow.refl _) (fun v G6 h6 hq => W.mk ?_); have hg6 := hg5.trans h6; have o6 := hq; obtain ⟨w6, rfl, _⟩ := hq; (conv => whnf)
            refine ScaP.g (ok2 sitRd offRd fun s _ => Calm s) (x := (s, o)) ⟨_, _, rfl, sitRd.grow h6 s5, o6, hcalm⟩ (fun v hv => W.mk ?_)
            subst hv
            dsimp only
            rw [hfe, hfv]
            (conv => whnf)
            refine RelP.g (ok1 sitRd fun s => s.ps.length ≤ 1000) (x := s) ⟨_, rfl, sitRd.grow hg6 hS0, hps1⟩ (Grow.refl _) (fun v G7 h7 hq => W.mk ?_); have hg7 := hg6.trans h7; have s7 := hq; obtain ⟨w7, rfl, _⟩ := hq; (conv => whnf)
            refine RelP.g (ok1 offRd fun o => o.crew.length ≤ 1000) (x := o') ⟨_, rfl, offRd.grow (((((h2.trans h3).trans h4).trans h5).trans h6).trans h7) hX1, by omega⟩ (Grow.refl _) (fun v G8 h8 hq => W.mk ?_)
            have hg8 := hg7.trans h8
            have o8 := hq
            obtain ⟨w8, rfl, _⟩ := hq
            (conv => whnf)
            refine ScaP.g (ok2 sitRd offRd fun s _ => Calm s) (x := (s, o')) ⟨_, _, rfl, sitRd.grow h8 s7, o8, hcalm⟩ (fun v hv => W.mk ?_)
            subst hv
            dsimp only
            (conv => whnf)
            refine IteP.mk (fun _ => W.mk ?_) (fun h => absurd rfl h)
            (conv => whnf)
            refine IteP.mk (fun _ => W.mk ?_) (fun h => absurd rfl h)
            (conv => whnf)
            refine IteP.mk (fun h7 => W.mk ?_) (fun h7 => W.mk ?_) <;> (conv => whnf)
            · (refine ScaP.g okU (G := fun _ => none) (x := ()) rfl (fun v hv => W.mk ?_); subst hv; (conv => whnf); refine ForkP.mk (fun _ => W.mk ?_) (fun h => by cases h); (conv => whnf); exact FinP.mk rfl)
            · have hf0 : failsE s o' = 0 := by
                rw [failsE, if_pos he'] at h7 ⊢
                split at h7
                · exact absurd rfl h7
                · rename_i h; rw [if_neg h]
              have hv0 : failsV s o' = farthestF (wkF s o') [] (-1) := by rw [failsV, if_pos hf0]
              refine IteP.mk (fun _ => W.mk ?_) (fun h => absurd hf0 h)
              (conv => whnf)
              rw [hv0]
              refine IteP.mk (fun _ => W.mk ?_) (fun h => absurd (by omega) h)
              (conv => whnf)
              (refine ScaP.g okU (G := fun _ => none) (x := ()) rfl (fun v hv => W.mk ?_); subst hv; (conv => whnf); refine ForkP.mk (fun _ => W.mk ?_) (fun h => by cases h); (conv => whnf); exact FinP.mk rfl)
        · repeat' (refine OblP.mk ?_ (W.mk ?_); (first | trivial | omega | (simp only [inR]; omega) | exact Nat.le_of_ble_eq_true (by rfl) | exact SlR.some (by assumption) (by omega)); (conv => whnf))
          refine IteP.mk (fun hw2 => W.mk ?_) (fun hw2 => W.mk ?_) <;> (conv => whnf)
          · refine ⟨_, Row.cell hrow hjc (show 2 < repE.k by decide), rfl, W.mk ?_⟩
            (conv => whnf)
            repeat' (refine OblP.mk ?_ (W.mk ?_); (first | trivial | omega | (simp only [inR]; omega) | exact Nat.le_of_ble_eq_true (by rfl) | exact SlR.some (by assumption) (by omega)); (conv => whnf))
            refine PubP.mk (fun pa pc G1 hp1 hp => W.mk ?_)
            obtain ⟨o', ho'⟩ : ∃ o' : Off, o' = ⟨o.crew.set j ⟨o.crew[j].lo, o.crew[j].hi, max 0 (o.crew[j].rest - by')⟩, o.due, o.delay⟩ := ⟨_, rfl⟩
            have hX1 : OffV G1 (.agg #[.slice pa (n2) pc, I (o.due), I (o.delay)]) o' := by rw [ho']; exact ⟨_, rfl, Row.pub (row_set (d := 2) hjc hrow (by decide) rfl rfl) hp (by omega)⟩
            have hg1 : Grow G G1 := hp1
            (conv => whnf)
            refine ScaP.g (ok1 offRd fun _ => True) (x := o') ⟨_, rfl, hX1, trivial⟩ (fun v hv => W.mk ?_)
            subst hv
            (conv => whnf)
            refine ForkP.mk (fun hval => W.mk ?_) (fun hval => W.mk ?_) <;> (conv => whnf)
            rotate_left
            · (refine ScaP.g okU (G := fun _ => none) (x := ()) rfl (fun v hv => W.mk ?_); subst hv; (conv => whnf); refine ForkP.mk (fun _ => W.mk ?_) (fun h => by cases h); (conv => whnf); exact FinP.mk rfl)
            have hval : validO o' = true := hval
            have hE : Easier o o' := (by rw [ho']; exact hset _ (Int.le_refl _) (by show max 0 (o.crew[j].rest - by') ≤ o.crew[j].rest; omega))
            clear ho'
            have hc' : 1 ≤ o'.crew.length ∧ o'.crew.length ≤ 5 := by have h := hval; simp only [validO, Bool.and_eq_true, inF, decide_eq_true_eq] at h; omega
            have he' : errW s o' = 0 := by rw [errW, if_pos (by rw [faultF, if_pos hvS, if_neg (by omega)]), if_pos hval]
            have hpp : ∀ p ∈ (wkF s o).t, p.fr ≤ p.to := fun p hp => (takes_bd hvS p hp).2.1
            have hfar := easier_far (x := wkF s o) (x' := wkF s o') rfl hE hpp
            have hle := far_le (x := wkF s o') (l := []) (skip := -1) (Nat.zero_le _)
            have hle : farthestF (wkF s o') [] (-1) ≤ (takesF s).length := hle
            refine RelP.g (ok1 sitRd fun s => s.ps.length ≤ 1000) (x := s) ⟨_, rfl, sitRd.grow hg1 hS0, hps1⟩ (Grow.refl _) (fun v G2 h2 hq => W.mk ?_); have hg2 := hg1.trans h2; have s2 := hq; obtain ⟨w2, rfl, _⟩ := hq; (conv => whnf)
            refine RelP.g (ok1 offRd fun o => o.crew.length ≤ 1000) (x := o) ⟨_, rfl, offRd.grow hg2 hO0, hcr1⟩ (Grow.refl _) (fun v G3 h3 hq => W.mk ?_); have hg3 := hg2.trans h3; have o3 := hq; obtain ⟨w3, rfl, _⟩ := hq; (conv => whnf)
            refine RelP.g (ok2 sitRd offRd fun s _ => Calm s) (x := (s, o)) ⟨_, _, rfl, sitRd.grow h3 s2, o3, hcalm⟩ (Grow.refl _) (fun v G4 h4 hq => W.mk ?_)
            have hg4 := hg3.trans h4
            obtain ⟨w4, rfl, hq⟩ := hq
            dsimp only at hq
            dsimp only
            by_cases hR : rotaE s o = 0
            · rw [if_pos hR] at hq
              have hQ4 := hq
              obtain ⟨a4, n4, c4, rfl, l4, hn4⟩ := hq
              rw [hR]
              obtain ⟨er, hr1, hr2⟩ := (rota_run he).1 hR
              have hfar0 : ¬ farthestF (wkF s o) [] (-1) < (takesF s).length := fun h => by rw [rotaE, if_pos he, if_pos h] at hR; cases hR
              obtain ⟨hlen, hrun⟩ := right_run.1 (rest_right (x := wkF s o) hfar0)
              have hlen : (rotaF s o).length = (takesF s).length := hlen
              (conv => whnf)
              refine IteP.mk (fun _ => W.mk ?_) (fun h => absurd rfl h)
              (conv => whnf)
              refine RelP.g (ok1 sitRd fun s => s.ps.length ≤ 1000) (x := s) ⟨_, rfl, sitRd.grow hg4 hS0, hps1⟩ (Grow.refl _) (fun v G5 h5 hq => W.mk ?_); have hg5 := hg4.trans h5; have s5 := hq; obtain ⟨w5, rfl, _⟩ := hq; (conv => whnf)
              refine RelP.g (ok1 offRd fun o => o.crew.length ≤ 1000) (x := o') ⟨_, rfl, offRd.grow (((h2.trans h3).trans h4).trans h5) hX1, by omega⟩ (Grow.refl _) (fun v G6 h6 hq => W.mk ?_)
              have hg6 := hg5.trans h6
              have o6 := hq
              obtain ⟨w6, rfl, _⟩ := hq
              (conv => whnf)
              refine RelP.g (ok1 (slRd intE) fun l => l.length ≤ 8796093022207) (x := rotaF s o) ⟨_, rfl, hQ4.grow (h5.trans h6), (by omega)⟩ (Grow.refl _) (fun v G7 h7 hq => W.mk ?_); have hg7 := hg6.trans h7; have r7 := hq; obtain ⟨a7, n7, c7, rfl, l7, hn7⟩ := hq; (conv => whnf)
              refine ScaP.g (ok3 sitRd offRd (slRd intE) fun s _ _ => Calm s) (x := (s, o', rotaF s o)) ⟨_, _, _, rfl, sitRd.grow (h6.trans h7) s5, offRd.grow h7 o6, r7, hcalm⟩ (fun v hv => W.mk ?_)
              have hv : v = .bool true := hv.trans (congrArg Value.bool (prove_run.2 ⟨he', hlen, easier_run (x := wkF s o) (x' := wkF s o') rfl hE hpp hrun⟩))
              subst hv
              (conv => whnf)
              refine ForkP.mk (fun _ => W.mk ?_) (fun h => by cases h)
              (conv => whnf)
              (refine ScaP.g okU (G := fun _ => none) (x := ()) rfl (fun v hv => W.mk ?_); subst hv; (conv => whnf); refine ForkP.mk (fun _ => W.mk ?_) (fun h => by cases h); (conv => whnf); exact FinP.mk rfl)
            · have h9 : rotaE s o = 9 := (rotaE_or he).resolve_left hR
              rw [if_neg hR] at hq
              subst hq
              rw [h9]
              have hfe : failsE s o = 0 := by
                rw [failsE, if_pos he, if_neg]
                intro h
                rw [rotaE, if_pos he, if_neg (by omega)] at h9
                cases h9
              have hfv : failsV s o = farthestF (wkF s o) [] (-1) := by rw [failsV, if_pos hfe]
              (conv => whnf)
              refine IteP.mk (fun h => by cases h) (fun _ => W.mk ?_)
              (conv => whnf)
              refine RelP.g (ok1 sitRd fun s => s.ps.length ≤ 1000) (x := s) ⟨_, rfl, sitRd.grow hg4 hS0, hps1⟩ (Grow.refl _) (fun v G5 h5 hq => W.mk ?_); have hg5 := hg4.trans h5; have s5 := hq; obtain ⟨w5, rfl, _⟩ := hq; (conv => whnf)
              refine RelP.g (ok1 offRd fun o => o.crew.length ≤ 1000) (x := o) ⟨_, rfl, offRd.grow hg5 hO0, hcr1⟩ (Grow.refl _) (fun v G6 h6 hq => W.mk ?_); have hg6 := hg5.trans h6; have o6 := hq; obtain ⟨w6, rfl, _⟩ := hq; (conv => whnf)
              refine ScaP.g (ok2 sitRd offRd fun s _ => Calm s) (x := (s, o)) ⟨_, _, rfl, sitRd.grow h6 s5, o6, hcalm⟩ (fun v hv => W.mk ?_)
              subst hv
              dsimp only
              rw [hfe, hfv]
              (conv => whnf)
              refine RelP.g (ok1 sitRd fun s => s.ps.length ≤ 1000) (x := s) ⟨_, rfl, sitRd.grow hg6 hS0, hps1⟩ (Grow.refl _) (fun v G7 h7 hq => W.mk ?_); have hg7 := hg6.trans h7; have s7 := hq; obtain ⟨w7, rfl, _⟩ := hq; (conv => whnf)
              refine RelP.g (ok1 offRd fun o => o.crew.length ≤ 1000) (x := o') ⟨_, rfl, offRd.grow (((((h2.trans h3).trans h4).trans h5).trans h6).trans h7) hX1, by omega⟩ (Grow.refl _) (fun v G8 h8 hq => W.mk ?_)
              have hg8 := hg7.trans h8
              have o8 := hq
              obtain ⟨w8, rfl, _⟩ := hq
              (conv => whnf)
              refine ScaP.g (ok2 sitRd offRd fun s _ => Calm s) (x := (s, o')) ⟨_, _, rfl, sitRd.grow h8 s7, o8, hcalm⟩ (fun v hv => W.mk ?_)
              subst hv
              dsimp only
              (conv => whnf)
              refine IteP.mk (fun _ => W.mk ?_) (fun h => absurd rfl h)
              (conv => whnf)
              refine IteP.mk (fun _ => W.mk ?_) (fun h => absurd rfl h)
              (conv => whnf)
              refine IteP.mk (fun h7 => W.mk ?_) (fun h7 => W.mk ?_) <;> (conv => whnf)
              · (refine ScaP.g okU (G := fun _ => none) (x := ()) rfl (fun v hv => W.mk ?_); subst hv; (conv => whnf); refine ForkP.mk (fun _ => W.mk ?_) (fun h => by cases h); (conv => whnf); exact FinP.mk rfl)
              · have hf0 : failsE s o' = 0 := by
                  rw [failsE, if_pos he'] at h7 ⊢
                  split at h7
                  · exact absurd rfl h7
                  · rename_i h; rw [if_neg h]
                have hv0 : failsV s o' = farthestF (wkF s o') [] (-1) := by rw [failsV, if_pos hf0]
                refine IteP.mk (fun _ => W.mk ?_) (fun h => absurd hf0 h)
                (conv => whnf)
                rw [hv0]
                refine IteP.mk (fun _ => W.mk ?_) (fun h => absurd (by omega) h)
                (conv => whnf)
                (refine ScaP.g okU (G := fun _ => none) (x := ()) rfl (fun v hv => W.mk ?_); subst hv; (conv => whnf); refine ForkP.mk (fun _ => W.mk ?_) (fun h => by cases h); (conv => whnf); exact FinP.mk rfl)
          · repeat' (refine OblP.mk ?_ (W.mk ?_); (first | trivial | omega | (simp only [inR]; omega) | exact Nat.le_of_ble_eq_true (by rfl) | exact SlR.some (by assumption) (by omega)); (conv => whnf))
            refine IteP.mk (fun hw3 => W.mk ?_) (fun hw3 => W.mk ?_) <;> (conv => whnf)
            · refine ⟨_, Row.cell hrow hjc (show 0 < repE.k by decide), rfl, W.mk ?_⟩
              (conv => whnf)
              repeat' (refine OblP.mk ?_ (W.mk ?_); (first | trivial | omega | (simp only [inR]; omega) | exact Nat.le_of_ble_eq_true (by rfl) | exact SlR.some (by assumption) (by omega)); (conv => whnf))
              refine ⟨_, Row.cell hrow hjc (show 1 < repE.k by decide), rfl, W.mk ?_⟩
              (conv => whnf)
              repeat' (refine OblP.mk ?_ (W.mk ?_); (first | trivial | omega | (simp only [inR]; omega) | exact Nat.le_of_ble_eq_true (by rfl) | exact SlR.some (by assumption) (by omega)); (conv => whnf))
              refine PubP.mk (fun pa pc G1 hp1 hp => W.mk ?_)
              obtain ⟨o', ho'⟩ : ∃ o' : Off, o' = ⟨o.crew.set j ⟨o.crew[j].lo, max o.crew[j].lo (o.crew[j].hi - by' % 5), o.crew[j].rest⟩, o.due, o.delay⟩ := ⟨_, rfl⟩
              have hX1 : OffV G1 (.agg #[.slice pa (n2) pc, I (o.due), I (o.delay)]) o' := by rw [ho']; exact ⟨_, rfl, Row.pub (row_set (d := 1) hjc hrow (by decide) rfl rfl) hp (by omega)⟩
              have hg1 : Grow G G1 := hp1
              (conv => whnf)
              refine ScaP.g (ok1 offRd fun _ => True) (x := o') ⟨_, rfl, hX1, trivial⟩ (fun v hv => W.mk ?_)
              subst hv
              (conv => whnf)
              refine ForkP.mk (fun hval => W.mk ?_) (fun hval => W.mk ?_) <;> (conv => whnf)
              rotate_left
              · (refine ScaP.g okU (G := fun _ => none) (x := ()) rfl (fun v hv => W.mk ?_); subst hv; (conv => whnf); refine ForkP.mk (fun _ => W.mk ?_) (fun h => by cases h); (conv => whnf); exact FinP.mk rfl)
              have hval : validO o' = true := hval
              have hE : Easier o o' := (by rw [ho']; exact hset _ (by show max o.crew[j].lo (o.crew[j].hi - by' % 5) ≤ o.crew[j].hi; omega) (Int.le_refl _))
              clear ho'
              have hc' : 1 ≤ o'.crew.length ∧ o'.crew.length ≤ 5 := by have h := hval; simp only [validO, Bool.and_eq_true, inF, decide_eq_true_eq] at h; omega
              have he' : errW s o' = 0 := by rw [errW, if_pos (by rw [faultF, if_pos hvS, if_neg (by omega)]), if_pos hval]
              have hpp : ∀ p ∈ (wkF s o).t, p.fr ≤ p.to := fun p hp => (takes_bd hvS p hp).2.1
              have hfar := easier_far (x := wkF s o) (x' := wkF s o') rfl hE hpp
              have hle := far_le (x := wkF s o') (l := []) (skip := -1) (Nat.zero_le _)
              have hle : farthestF (wkF s o') [] (-1) ≤ (takesF s).length := hle
              refine RelP.g (ok1 sitRd fun s => s.ps.length ≤ 1000) (x := s) ⟨_, rfl, sitRd.grow hg1 hS0, hps1⟩ (Grow.refl _) (fun v G2 h2 hq => W.mk ?_); have hg2 := hg1.trans h2; have s2 := hq; obtain ⟨w2, rfl, _⟩ := hq; (conv => whnf)
              refine RelP.g (ok1 offRd fun o => o.crew.length ≤ 1000) (x := o) ⟨_, rfl, offRd.grow hg2 hO0, hcr1⟩ (Grow.refl _) (fun v G3 h3 hq => W.mk ?_); have hg3 := hg2.trans h3; have o3 := hq; obtain ⟨w3, rfl, _⟩ := hq; (conv => whnf)
              refine RelP.g (ok2 sitRd offRd fun s _ => Calm s) (x := (s, o)) ⟨_, _, rfl, sitRd.grow h3 s2, o3, hcalm⟩ (Grow.refl _) (fun v G4 h4 hq => W.mk ?_)
              have hg4 := hg3.trans h4
              obtain ⟨w4, rfl, hq⟩ := hq
              dsimp only at hq
              dsimp only
              by_cases hR : rotaE s o = 0
              · rw [if_pos hR] at hq
                have hQ4 := hq
                obtain ⟨a4, n4, c4, rfl, l4, hn4⟩ := hq
                rw [hR]
                obtain ⟨er, hr1, hr2⟩ := (rota_run he).1 hR
                have hfar0 : ¬ farthestF (wkF s o) [] (-1) < (takesF s).length := fun h => by rw [rotaE, if_pos he, if_pos h] at hR; cases hR
                obtain ⟨hlen, hrun⟩ := right_run.1 (rest_right (x := wkF s o) hfar0)
                have hlen : (rotaF s o).length = (takesF s).length := hlen
                (conv => whnf)
                refine IteP.mk (fun _ => W.mk ?_) (fun h => absurd rfl h)
                (conv => whnf)
                refine RelP.g (ok1 sitRd fun s => s.ps.length ≤ 1000) (x := s) ⟨_, rfl, sitRd.grow hg4 hS0, hps1⟩ (Grow.refl _) (fun v G5 h5 hq => W.mk ?_); have hg5 := hg4.trans h5; have s5 := hq; obtain ⟨w5, rfl, _⟩ := hq; (conv => whnf)
                refine RelP.g (ok1 offRd fun o => o.crew.length ≤ 1000) (x := o') ⟨_, rfl, offRd.grow (((h2.trans h3).trans h4).trans h5) hX1, by omega⟩ (Grow.refl _) (fun v G6 h6 hq => W.mk ?_)
                have hg6 := hg5.trans h6
                have o6 := hq
                obtain ⟨w6, rfl, _⟩ := hq
                (conv => whnf)
                refine RelP.g (ok1 (slRd intE) fun l => l.length ≤ 8796093022207) (x := rotaF s o) ⟨_, rfl, hQ4.grow (h5.trans h6), (by omega)⟩ (Grow.refl _) (fun v G7 h7 hq => W.mk ?_); have hg7 := hg6.trans h7; have r7 := hq; obtain ⟨a7, n7, c7, rfl, l7, hn7⟩ := hq; (conv => whnf)
                refine ScaP.g (ok3 sitRd offRd (slRd intE) fun s _ _ => Calm s) (x := (s, o', rotaF s o)) ⟨_, _, _, rfl, sitRd.grow (h6.trans h7) s5, offRd.grow h7 o6, r7, hcalm⟩ (fun v hv => W.mk ?_)
                have hv : v = .bool true := hv.trans (congrArg Value.bool (prove_run.2 ⟨he', hlen, easier_run (x := wkF s o) (x' := wkF s o') rfl hE hpp hrun⟩))
                subst hv
                (conv => whnf)
                refine ForkP.mk (fun _ => W.mk ?_) (fun h => by cases h)
                (conv => whnf)
                (refine ScaP.g okU (G := fun _ => none) (x := ()) rfl (fun v hv => W.mk ?_); subst hv; (conv => whnf); refine ForkP.mk (fun _ => W.mk ?_) (fun h => by cases h); (conv => whnf); exact FinP.mk rfl)
              · have h9 : rotaE s o = 9 := (rotaE_or he).resolve_left hR
                rw [if_neg hR] at hq
                subst hq
                rw [h9]
                have hfe : failsE s o = 0 := by
                  rw [failsE, if_pos he, if_neg]
                  intro h
                  rw [rotaE, if_pos he, if_neg (by omega)] at h9
                  cases h9
                have hfv : failsV s o = farthestF (wkF s o) [] (-1) := by rw [failsV, if_pos hfe]
                (conv => whnf)
                refine IteP.mk (fun h => by cases h) (fun _ => W.mk ?_)
                (conv => whnf)
                refine RelP.g (ok1 sitRd fun s => s.ps.length ≤ 1000) (x := s) ⟨_, rfl, sitRd.grow hg4 hS0, hps1⟩ (Grow.refl _) (fun v G5 h5 hq => W.mk ?_); have hg5 := hg4.trans h5; have s5 := hq; obtain ⟨w5, rfl, _⟩ := hq; (conv => whnf)
                refine RelP.g (ok1 offRd fun o => o.crew.length ≤ 1000) (x := o) ⟨_, rfl, offRd.grow hg5 hO0, hcr1⟩ (Grow.refl _) (fun v G6 h6 hq => W.mk ?_); have hg6 := hg5.trans h6; have o6 := hq; obtain ⟨w6, rfl, _⟩ := hq; (conv => whnf)
                refine ScaP.g (ok2 sitRd offRd fun s _ => Calm s) (x := (s, o)) ⟨_, _, rfl, sitRd.grow h6 s5, o6, hcalm⟩ (fun v hv => W.mk ?_)
                subst hv
                dsimp only
                rw [hfe, hfv]
                (conv => whnf)
                refine RelP.g (ok1 sitRd fun s => s.ps.length ≤ 1000) (x := s) ⟨_, rfl, sitRd.grow hg6 hS0, hps1⟩ (Grow.refl _) (fun v G7 h7 hq => W.mk ?_); have hg7 := hg6.trans h7; have s7 := hq; obtain ⟨w7, rfl, _⟩ := hq; (conv => whnf)
                refine RelP.g (ok1 offRd fun o => o.crew.length ≤ 1000) (x := o') ⟨_, rfl, offRd.grow (((((h2.trans h3).trans h4).trans h5).trans h6).trans h7) hX1, by omega⟩ (Grow.refl _) (fun v G8 h8 hq => W.mk ?_)
                have hg8 := hg7.trans h8
                have o8 := hq
                obtain ⟨w8, rfl, _⟩ := hq
                (conv => whnf)
                refine ScaP.g (ok2 sitRd offRd fun s _ => Calm s) (x := (s, o')) ⟨_, _, rfl, sitRd.grow h8 s7, o8, hcalm⟩ (fun v hv => W.mk ?_)
                subst hv
                dsimp only
                (conv => whnf)
                refine IteP.mk (fun _ => W.mk ?_) (fun h => absurd rfl h)
                (conv => whnf)
                refine IteP.mk (fun _ => W.mk ?_) (fun h => absurd rfl h)
                (conv => whnf)
                refine IteP.mk (fun h7 => W.mk ?_) (fun h7 => W.mk ?_) <;> (conv => whnf)
                · (refine ScaP.g okU (G := fun _ => none) (x := ()) rfl (fun v hv => W.mk ?_); subst hv; (conv => whnf); refine ForkP.mk (fun _ => W.mk ?_) (fun h => by cases h); (conv => whnf); exact FinP.mk rfl)
                · have hf0 : failsE s o' = 0 := by
                    rw [failsE, if_pos he'] at h7 ⊢
                    split at h7
                    · exact absurd rfl h7
                    · rename_i h; rw [if_neg h]
                  have hv0 : failsV s o' = farthestF (wkF s o') [] (-1) := by rw [failsV, if_pos hf0]
                  refine IteP.mk (fun _ => W.mk ?_) (fun h => absurd hf0 h)
                  (conv => whnf)
                  rw [hv0]
                  refine IteP.mk (fun _ => W.mk ?_) (fun h => absurd (by omega) h)
                  (conv => whnf)
                  (refine ScaP.g okU (G := fun _ => none) (x := ()) rfl (fun v hv => W.mk ?_); subst hv; (conv => whnf); refine ForkP.mk (fun _ => W.mk ?_) (fun h => by cases h); (conv => whnf); exact FinP.mk rfl)
            · repeat' (refine OblP.mk ?_ (W.mk ?_); (first | trivial | omega | (simp only [inR]; omega) | exact Nat.le_of_ble_eq_true (by rfl) | exact SlR.some (by assumption) (by omega)); (conv => whnf))
              refine IteP.mk (fun hw4 => W.mk ?_) (fun hw4 => W.mk ?_) <;> (conv => whnf)
              · repeat' (refine OblP.mk ?_ (W.mk ?_); (first | trivial | omega | (simp only [inR]; omega) | exact Nat.le_of_ble_eq_true (by rfl) | exact SlR.some (by assumption) (by omega)); (conv => whnf))
                refine PubP.mk (fun pa pc G1 hp1 hp => W.mk ?_)
                obtain ⟨o', ho'⟩ : ∃ o' : Off, o' = ⟨o.crew ++ [more], o.due, o.delay⟩ := ⟨_, rfl⟩
                have hX1 : OffV G1 (.agg #[.slice pa (n2 + 1) pc, I (o.due), I (o.delay)]) o' := by rw [ho']; exact ⟨_, rfl, Row.pub (hrow.snoc more) hp (by omega)⟩
                have hg1 : Grow G G1 := hp1
                (conv => whnf)
                refine ScaP.g (ok1 offRd fun _ => True) (x := o') ⟨_, rfl, hX1, trivial⟩ (fun v hv => W.mk ?_)
                subst hv
                (conv => whnf)
                refine ForkP.mk (fun hval => W.mk ?_) (fun hval => W.mk ?_) <;> (conv => whnf)
                rotate_left
                · (refine ScaP.g okU (G := fun _ => none) (x := ()) rfl (fun v hv => W.mk ?_); subst hv; (conv => whnf); refine ForkP.mk (fun _ => W.mk ?_) (fun h => by cases h); (conv => whnf); exact FinP.mk rfl)
                have hval : validO o' = true := hval
                have hE : Easier o o' := (by rw [ho']; exact ⟨by simp, fun i hi => by simp only [List.getD_eq_getElem?_getD, List.getElem?_append_left hi]; exact ⟨Int.le_refl _, Int.le_refl _⟩, Int.le_refl _, Int.le_refl _⟩)
                clear ho'
                have hc' : 1 ≤ o'.crew.length ∧ o'.crew.length ≤ 5 := by have h := hval; simp only [validO, Bool.and_eq_true, inF, decide_eq_true_eq] at h; omega
                have he' : errW s o' = 0 := by rw [errW, if_pos (by rw [faultF, if_pos hvS, if_neg (by omega)]), if_pos hval]
                have hpp : ∀ p ∈ (wkF s o).t, p.fr ≤ p.to := fun p hp => (takes_bd hvS p hp).2.1
                have hfar := easier_far (x := wkF s o) (x' := wkF s o') rfl hE hpp
                have hle := far_le (x := wkF s o') (l := []) (skip := -1) (Nat.zero_le _)
                have hle : farthestF (wkF s o') [] (-1) ≤ (takesF s).length := hle
                refine RelP.g (ok1 sitRd fun s => s.ps.length ≤ 1000) (x := s) ⟨_, rfl, sitRd.grow hg1 hS0, hps1⟩ (Grow.refl _) (fun v G2 h2 hq => W.mk ?_); have hg2 := hg1.trans h2; have s2 := hq; obtain ⟨w2, rfl, _⟩ := hq; (conv => whnf)
                refine RelP.g (ok1 offRd fun o => o.crew.length ≤ 1000) (x := o) ⟨_, rfl, offRd.grow hg2 hO0, hcr1⟩ (Grow.refl _) (fun v G3 h3 hq => W.mk ?_); have hg3 := hg2.trans h3; have o3 := hq; obtain ⟨w3, rfl, _⟩ := hq; (conv => whnf)
                refine RelP.g (ok2 sitRd offRd fun s _ => Calm s) (x := (s, o)) ⟨_, _, rfl, sitRd.grow h3 s2, o3, hcalm⟩ (Grow.refl _) (fun v G4 h4 hq => W.mk ?_)
                have hg4 := hg3.trans h4
                obtain ⟨w4, rfl, hq⟩ := hq
                dsimp only at hq
                dsimp only
                by_cases hR : rotaE s o = 0
                · rw [if_pos hR] at hq
                  have hQ4 := hq
                  obtain ⟨a4, n4, c4, rfl, l4, hn4⟩ := hq
                  rw [hR]
                  obtain ⟨er, hr1, hr2⟩ := (rota_run he).1 hR
                  have hfar0 : ¬ farthestF (wkF s o) [] (-1) < (takesF s).length := fun h => by rw [rotaE, if_pos he, if_pos h] at hR; cases hR
                  obtain ⟨hlen, hrun⟩ := right_run.1 (rest_right (x := wkF s o) hfar0)
                  have hlen : (rotaF s o).length = (takesF s).length := hlen
                  (conv => whnf)
                  refine IteP.mk (fun _ => W.mk ?_) (fun h => absurd rfl h)
                  (conv => whnf)
                  refine RelP.g (ok1 sitRd fun s => s.ps.length ≤ 1000) (x := s) ⟨_, rfl, sitRd.grow hg4 hS0, hps1⟩ (Grow.refl _) (fun v G5 h5 hq => W.mk ?_); have hg5 := hg4.trans h5; have s5 := hq; obtain ⟨w5, rfl, _⟩ := hq; (conv => whnf)
                  refine RelP.g (ok1 offRd fun o => o.crew.length ≤ 1000) (x := o') ⟨_, rfl, offRd.grow (((h2.trans h3).trans h4).trans h5) hX1, by omega⟩ (Grow.refl _) (fun v G6 h6 hq => W.mk ?_)
                  have hg6 := hg5.trans h6
                  have o6 := hq
                  obtain ⟨w6, rfl, _⟩ := hq
                  (conv => whnf)
                  refine RelP.g (ok1 (slRd intE) fun l => l.length ≤ 8796093022207) (x := rotaF s o) ⟨_, rfl, hQ4.grow (h5.trans h6), (by omega)⟩ (Grow.refl _) (fun v G7 h7 hq => W.mk ?_); have hg7 := hg6.trans h7; have r7 := hq; obtain ⟨a7, n7, c7, rfl, l7, hn7⟩ := hq; (conv => whnf)
                  refine ScaP.g (ok3 sitRd offRd (slRd intE) fun s _ _ => Calm s) (x := (s, o', rotaF s o)) ⟨_, _, _, rfl, sitRd.grow (h6.trans h7) s5, offRd.grow h7 o6, r7, hcalm⟩ (fun v hv => W.mk ?_)
                  have hv : v = .bool true := hv.trans (congrArg Value.bool (prove_run.2 ⟨he', hlen, easier_run (x := wkF s o) (x' := wkF s o') rfl hE hpp hrun⟩))
                  subst hv
                  (conv => whnf)
                  refine ForkP.mk (fun _ => W.mk ?_) (fun h => by cases h)
                  (conv => whnf)
                  (refine ScaP.g okU (G := fun _ => none) (x := ()) rfl (fun v hv => W.mk ?_); subst hv; (conv => whnf); refine ForkP.mk (fun _ => W.mk ?_) (fun h => by cases h); (conv => whnf); exact FinP.mk rfl)
                · have h9 : rotaE s o = 9 := (rotaE_or he).resolve_left hR
                  rw [if_neg hR] at hq
                  subst hq
                  rw [h9]
                  have hfe : failsE s o = 0 := by
                    rw [failsE, if_pos he, if_neg]
                    intro h
                    rw [rotaE, if_pos he, if_neg (by omega)] at h9
                    cases h9
                  have hfv : failsV s o = farthestF (wkF s o) [] (-1) := by rw [failsV, if_pos hfe]
                  (conv => whnf)
                  refine IteP.mk (fun h => by cases h) (fun _ => W.mk ?_)
                  (conv => whnf)
                  refine RelP.g (ok1 sitRd fun s => s.ps.length ≤ 1000) (x := s) ⟨_, rfl, sitRd.grow hg4 hS0, hps1⟩ (Grow.refl _) (fun v G5 h5 hq => W.mk ?_); have hg5 := hg4.trans h5; have s5 := hq; obtain ⟨w5, rfl, _⟩ := hq; (conv => whnf)
                  refine RelP.g (ok1 offRd fun o => o.crew.length ≤ 1000) (x := o) ⟨_, rfl, offRd.grow hg5 hO0, hcr1⟩ (Grow.refl _) (fun v G6 h6 hq => W.mk ?_); have hg6 := hg5.trans h6; have o6 := hq; obtain ⟨w6, rfl, _⟩ := hq; (conv => whnf)
                  refine ScaP.g (ok2 sitRd offRd fun s _ => Calm s) (x := (s, o)) ⟨_, _, rfl, sitRd.grow h6 s5, o6, hcalm⟩ (fun v hv => W.mk ?_)
                  subst hv
                  dsimp only
                  rw [hfe, hfv]
                  (conv => whnf)
                  refine RelP.g (ok1 sitRd fun s => s.ps.length ≤ 1000) (x := s) ⟨_, rfl, sitRd.grow hg6 hS0, hps1⟩ (Grow.refl _) (fun v G7 h7 hq => W.mk ?_); have hg7 := hg6.trans h7; have s7 := hq; obtain ⟨w7, rfl, _⟩ := hq; (conv => whnf)
                  refine RelP.g (ok1 offRd fun o => o.crew.length ≤ 1000) (x := o') ⟨_, rfl, offRd.grow (((((h2.trans h3).trans h4).trans h5).trans h6).trans h7) hX1, by omega⟩ (Grow.refl _) (fun v G8 h8 hq => W.mk ?_)
                  have hg8 := hg7.trans h8
                  have o8 := hq
                  obtain ⟨w8, rfl, _⟩ := hq
                  (conv => whnf)
                  refine ScaP.g (ok2 sitRd offRd fun s _ => Calm s) (x := (s, o')) ⟨_, _, rfl, sitRd.grow h8 s7, o8, hcalm⟩ (fun v hv => W.mk ?_)
                  subst hv
                  dsimp only
                  (conv => whnf)
                  refine IteP.mk (fun _ => W.mk ?_) (fun h => absurd rfl h)
                  (conv => whnf)
                  refine IteP.mk (fun _ => W.mk ?_) (fun h => absurd rfl h)
                  (conv => whnf)
                  refine IteP.mk (fun h7 => W.mk ?_) (fun h7 => W.mk ?_) <;> (conv => whnf)
                  · (refine ScaP.g okU (G := fun _ => none) (x := ()) rfl (fun v hv => W.mk ?_); subst hv; (conv => whnf); refine ForkP.mk (fun _ => W.mk ?_) (fun h => by cases h); (conv => whnf); exact FinP.mk rfl)
                  · have hf0 : failsE s o' = 0 := by
                      rw [failsE, if_pos he'] at h7 ⊢
                      split at h7
                      · exact absurd rfl h7
                      · rename_i h; rw [if_neg h]
                    have hv0 : failsV s o' = farthestF (wkF s o') [] (-1) := by rw [failsV, if_pos hf0]
                    refine IteP.mk (fun _ => W.mk ?_) (fun h => absurd hf0 h)
                    (conv => whnf)
                    rw [hv0]
                    refine IteP.mk (fun _ => W.mk ?_) (fun h => absurd (by omega) h)
                    (conv => whnf)
                    (refine ScaP.g okU (G := fun _ => none) (x := ()) rfl (fun v hv => W.mk ?_); subst hv; (conv => whnf); refine ForkP.mk (fun _ => W.mk ?_) (fun h => by cases h); (conv => whnf); exact FinP.mk rfl)
              · repeat' (refine OblP.mk ?_ (W.mk ?_); (first | trivial | omega | (simp only [inR]; omega) | exact Nat.le_of_ble_eq_true (by rfl) | exact SlR.some (by assumption) (by omega)); (conv => whnf))
                refine PubP.mk (fun pa pc G1 hp1 hp => W.mk ?_)
                obtain ⟨o', ho'⟩ : ∃ o' : Off, o' = ⟨o.crew, o.due, o.delay⟩ := ⟨_, rfl⟩
                have hX1 : OffV G1 (.agg #[.slice pa (n2) pc, I (o.due), I (o.delay)]) o' := by rw [ho']; exact ⟨_, rfl, Row.pub hrow hp (by omega)⟩
                have hg1 : Grow G G1 := hp1
                (conv => whnf)
                refine ScaP.g (ok1 offRd fun _ => True) (x := o') ⟨_, rfl, hX1, trivial⟩ (fun v hv => W.mk ?_)
                subst hv
                (conv => whnf)
                refine ForkP.mk (fun hval => W.mk ?_) (fun hval => W.mk ?_) <;> (conv => whnf)
                rotate_left
                · (refine ScaP.g okU (G := fun _ => none) (x := ()) rfl (fun v hv => W.mk ?_); subst hv; (conv => whnf); refine ForkP.mk (fun _ => W.mk ?_) (fun h => by cases h); (conv => whnf); exact FinP.mk rfl)
                have hval : validO o' = true := hval
                have hE : Easier o o' := (by rw [ho']; exact ⟨Nat.le_refl _, fun i hi => ⟨Int.le_refl _, Int.le_refl _⟩, Int.le_refl _, Int.le_refl _⟩)
                clear ho'
                have hc' : 1 ≤ o'.crew.length ∧ o'.crew.length ≤ 5 := by have h := hval; simp only [validO, Bool.and_eq_true, inF, decide_eq_true_eq] at h; omega
                have he' : errW s o' = 0 := by rw [errW, if_pos (by rw [faultF, if_pos hvS, if_neg (by omega)]), if_pos hval]
                have hpp : ∀ p ∈ (wkF s o).t, p.fr ≤ p.to := fun p hp => (takes_bd hvS p hp).2.1
                have hfar := easier_far (x := wkF s o) (x' := wkF s o') rfl hE hpp
                have hle := far_le (x := wkF s o') (l := []) (skip := -1) (Nat.zero_le _)
                have hle : farthestF (wkF s o') [] (-1) ≤ (takesF s).length := hle
                refine RelP.g (ok1 sitRd fun s => s.ps.length ≤ 1000) (x := s) ⟨_, rfl, sitRd.grow hg1 hS0, hps1⟩ (Grow.refl _) (fun v G2 h2 hq => W.mk ?_); have hg2 := hg1.trans h2; have s2 := hq; obtain ⟨w2, rfl, _⟩ := hq; (conv => whnf)
                refine RelP.g (ok1 offRd fun o => o.crew.length ≤ 1000) (x := o) ⟨_, rfl, offRd.grow hg2 hO0, hcr1⟩ (Grow.refl _) (fun v G3 h3 hq => W.mk ?_); have hg3 := hg2.trans h3; have o3 := hq; obtain ⟨w3, rfl, _⟩ := hq; (conv => whnf)
                refine RelP.g (ok2 sitRd offRd fun s _ => Calm s) (x := (s, o)) ⟨_, _, rfl, sitRd.grow h3 s2, o3, hcalm⟩ (Grow.refl _) (fun v G4 h4 hq => W.mk ?_)
                have hg4 := hg3.trans h4
                obtain ⟨w4, rfl, hq⟩ := hq
                dsimp only at hq
                dsimp only
                by_cases hR : rotaE s o = 0
                · rw [if_pos hR] at hq
                  have hQ4 := hq
                  obtain ⟨a4, n4, c4, rfl, l4, hn4⟩ := hq
                  rw [hR]
                  obtain ⟨er, hr1, hr2⟩ := (rota_run he).1 hR
                  have hfar0 : ¬ farthestF (wkF s o) [] (-1) < (takesF s).length := fun h => by rw [rotaE, if_pos he, if_pos h] at hR; cases hR
                  obtain ⟨hlen, hrun⟩ := right_run.1 (rest_right (x := wkF s o) hfar0)
                  have hlen : (rotaF s o).length = (takesF s).length := hlen
                  (conv => whnf)
                  refine IteP.mk (fun _ => W.mk ?_) (fun h => absurd rfl h)
                  (conv => whnf)
                  refine RelP.g (ok1 sitRd fun s => s.ps.length ≤ 1000) (x := s) ⟨_, rfl, sitRd.grow hg4 hS0, hps1⟩ (Grow.refl _) (fun v G5 h5 hq => W.mk ?_); have hg5 := hg4.trans h5; have s5 := hq; obtain ⟨w5, rfl, _⟩ := hq; (conv => whnf)
                  refine RelP.g (ok1 offRd fun o => o.crew.length ≤ 1000) (x := o') ⟨_, rfl, offRd.grow (((h2.trans h3).trans h4).trans h5) hX1, by omega⟩ (Grow.refl _) (fun v G6 h6 hq => W.mk ?_)
                  have hg6 := hg5.trans h6
                  have o6 := hq
                  obtain ⟨w6, rfl, _⟩ := hq
                  (conv => whnf)
                  refine RelP.g (ok1 (slRd intE) fun l => l.length ≤ 8796093022207) (x := rotaF s o) ⟨_, rfl, hQ4.grow (h5.trans h6), (by omega)⟩ (Grow.refl _) (fun v G7 h7 hq => W.mk ?_); have hg7 := hg6.trans h7; have r7 := hq; obtain ⟨a7, n7, c7, rfl, l7, hn7⟩ := hq; (conv => whnf)
                  refine ScaP.g (ok3 sitRd offRd (slRd intE) fun s _ _ => Calm s) (x := (s, o', rotaF s o)) ⟨_, _, _, rfl, sitRd.grow (h6.trans h7) s5, offRd.grow h7 o6, r7, hcalm⟩ (fun v hv => W.mk ?_)
                  have hv : v = .bool true := hv.trans (congrArg Value.bool (prove_run.2 ⟨he', hlen, easier_run (x := wkF s o) (x' := wkF s o') rfl hE hpp hrun⟩))
                  subst hv
                  (conv => whnf)
                  refine ForkP.mk (fun _ => W.mk ?_) (fun h => by cases h)
                  (conv => whnf)
                  (refine ScaP.g okU (G := fun _ => none) (x := ()) rfl (fun v hv => W.mk ?_); subst hv; (conv => whnf); refine ForkP.mk (fun _ => W.mk ?_) (fun h => by cases h); (conv => whnf); exact FinP.mk rfl)
                · have h9 : rotaE s o = 9 := (rotaE_or he).resolve_left hR
                  rw [if_neg hR] at hq
                  subst hq
                  rw [h9]
                  have hfe : failsE s o = 0 := by
                    rw [failsE, if_pos he, if_neg]
                    intro h
                    rw [rotaE, if_pos he, if_neg (by omega)] at h9
                    cases h9
                  have hfv : failsV s o = farthestF (wkF s o) [] (-1) := by rw [failsV, if_pos hfe]
                  (conv => whnf)
                  refine IteP.mk (fun h => by cases h) (fun _ => W.mk ?_)
                  (conv => whnf)
                  refine RelP.g (ok1 sitRd fun s => s.ps.length ≤ 1000) (x := s) ⟨_, rfl, sitRd.grow hg4 hS0, hps1⟩ (Grow.refl _) (fun v G5 h5 hq => W.mk ?_); have hg5 := hg4.trans h5; have s5 := hq; obtain ⟨w5, rfl, _⟩ := hq; (conv => whnf)
                  refine RelP.g (ok1 offRd fun o => o.crew.length ≤ 1000) (x := o) ⟨_, rfl, offRd.grow hg5 hO0, hcr1⟩ (Grow.refl _) (fun v G6 h6 hq => W.mk ?_); have hg6 := hg5.trans h6; have o6 := hq; obtain ⟨w6, rfl, _⟩ := hq; (conv => whnf)
                  refine ScaP.g (ok2 sitRd offRd fun s _ => Calm s) (x := (s, o)) ⟨_, _, rfl, sitRd.grow h6 s5, o6, hcalm⟩ (fun v hv => W.mk ?_)
                  subst hv
                  dsimp only
                  rw [hfe, hfv]
                  (conv => whnf)
                  refine RelP.g (ok1 sitRd fun s => s.ps.length ≤ 1000) (x := s) ⟨_, rfl, sitRd.grow hg6 hS0, hps1⟩ (Grow.refl _) (fun v G7 h7 hq => W.mk ?_); have hg7 := hg6.trans h7; have s7 := hq; obtain ⟨w7, rfl, _⟩ := hq; (conv => whnf)
                  refine RelP.g (ok1 offRd fun o => o.crew.length ≤ 1000) (x := o') ⟨_, rfl, offRd.grow (((((h2.trans h3).trans h4).trans h5).trans h6).trans h7) hX1, by omega⟩ (Grow.refl _) (fun v G8 h8 hq => W.mk ?_)
                  have hg8 := hg7.trans h8
                  have o8 := hq
                  obtain ⟨w8, rfl, _⟩ := hq
                  (conv => whnf)
                  refine ScaP.g (ok2 sitRd offRd fun s _ => Calm s) (x := (s, o')) ⟨_, _, rfl, sitRd.grow h8 s7, o8, hcalm⟩ (fun v hv => W.mk ?_)
                  subst hv
                  dsimp only
                  (conv => whnf)
                  refine IteP.mk (fun _ => W.mk ?_) (fun h => absurd rfl h)
                  (conv => whnf)
                  refine IteP.mk (fun _ => W.mk ?_) (fun h => absurd rfl h)
                  (conv => whnf)
                  refine IteP.mk (fun h7 => W.mk ?_) (fun h7 => W.mk ?_) <;> (conv => whnf)
                  · (refine ScaP.g okU (G := fun _ => none) (x := ()) rfl (fun v hv => W.mk ?_); subst hv; (conv => whnf); refine ForkP.mk (fun _ => W.mk ?_) (fun h => by cases h); (conv => whnf); exact FinP.mk rfl)
                  · have hf0 : failsE s o' = 0 := by
                      rw [failsE, if_pos he'] at h7 ⊢
                      split at h7
                      · exact absurd rfl h7
                      · rename_i h; rw [if_neg h]
                    have hv0 : failsV s o' = farthestF (wkF s o') [] (-1) := by rw [failsV, if_pos hf0]
                    refine IteP.mk (fun _ => W.mk ?_) (fun h => absurd hf0 h)
                    (conv => whnf)
                    rw [hv0]
                    refine IteP.mk (fun _ => W.mk ?_) (fun h => absurd (by omega) h)
                    (conv => whnf)
                    (refine ScaP.g okU (G := fun _ => none) (x := ()) rfl (fun v hv => W.mk ?_); subst hv; (conv => whnf); refine ForkP.mk (fun _ => W.mk ?_) (fun h => by cases h); (conv => whnf); exact FinP.mk rfl)
end Go.Proofs.Ytcmhpndhloplpaa
