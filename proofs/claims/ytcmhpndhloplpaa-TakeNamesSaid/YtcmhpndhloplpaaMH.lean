/- The law of what any day brings: walked. The law of what fails first: walked. -/
import Derived.Test.YtcmhpndhloplpaaMG
namespace Go.Proofs.Ytcmhpndhloplpaa
open Go.Pal

set_option maxRecDepth 100000
set_option maxHeartbeats 1000000

def tabW : Tab Try.prog := Tab.cons 12 _ takes12 body12 (Tab.cons 13 _ sitting13 body13 (Tab.cons 16 _ ready16 body16 (Tab.cons 17 _ rota17 body17 (Tab.cons 18 _ office18 body18 (Tab.cons 19 _ fails19 body19 (Tab.cons 20 _ prove20 body20 (Tab.cons 21 _ list21 body21 (Tab.cons 22 _ cut22 body22 (Tab.cons 24 _ lists24 body24 (Tab.cons 25 _ pick25 body25 (Tab.cons 26 _ done26 body26 (Tab.cons 27 _ relieve27 body27 (Tab.cons 11 _ awake11 body11 (Tab.cons 23 _ right23 body23 (Tab.nil _)))))))))))))))
theorem realF_iff {o : Off} {r : Int} {p : Slow} : realF o r p = true ↔ ((repN o r).lo ≤ p.slow ∧ p.slow ≤ (repN o r).hi) ∧ (0 ≤ p.delay ∧ p.delay ≤ o.delay) := by
  unfold realF inF
  rw [Bool.and_eq_true, decide_eq_true_eq, decide_eq_true_eq]
theorem law7 : Sound Try.prog 7 id (gsca (args3 sitU offU (slU u16E) fun _ _ l => ∀ m ∈ l, m < 65536) fun _ v => v = .bool true) := by
  refine comp7.gsca tabW (fun args G s h => ?_) (fun args G x h => ?_)
  · obtain ⟨u, v, w, rfl, _⟩ := h; simp
  · obtain ⟨s, o, q⟩ := x
    obtain ⟨u, v, w, rfl, ⟨w1, rfl, a, n, c, rfl, hl⟩, ⟨w2, rfl, a2, n2, c2, rfl, hl2⟩, ⟨qa, qn, qc, rfl, ql⟩, hq⟩ := h
    have e1 := hl.len
    have e2 := hl2.len
    dsimp only at hl hl2 ql hq e1 e2
    dsimp only
    (conv => whnf)
    refine ScaP.g (ok2 sitU offU fun _ _ => True) (x := (s, o)) ⟨_, _, rfl, ⟨_, rfl, a, n, c, rfl, hl⟩, ⟨_, rfl, a2, n2, c2, rfl, hl2⟩, trivial⟩ (fun v hv => W.mk ?_)
    subst hv
    (conv => whnf)
    refine ForkP.mk (fun hready => W.mk ?_) (fun hready => W.mk ?_) <;> (conv => whnf)
    rotate_left
    · (refine ScaP.g okU (G := fun _ => none) (x := ()) rfl (fun v hv => W.mk ?_); subst hv; (conv => whnf); refine ForkP.mk (fun _ => W.mk ?_) (fun h => by cases h); (conv => whnf); exact FinP.mk rfl)
    · have hready : readyF s o = true := hready
      simp only [readyF, thinF, Bool.and_eq_true, decide_eq_true_eq] at hready
      obtain ⟨⟨hps, hcr⟩, he⟩ := hready
      obtain ⟨hvS, ht, ho⟩ := err0 he
      obtain ⟨hf, hc, _⟩ := fine0 he
      have hcalm := valid_calm hvS
      have hn : n ≤ 140737488355328 := by omega
      have hn2 : n2 ≤ 140737488355328 := by omega
      refine RelP.g (ok1 sitRd fun s => s.ps.length ≤ 1000) (x := s) ⟨_, rfl, ⟨_, rfl, a, n, c, rfl, hl, hn⟩, by omega⟩ (Grow.refl _) (fun v G1 hg1 hq => W.mk ?_)
      have s1 := hq
      obtain ⟨w1, rfl, _⟩ := hq
      (conv => whnf)
      refine RelP.g (ok1 offRd fun o => o.crew.length ≤ 1000) (x := o) ⟨_, rfl, ⟨_, rfl, a2, n2, c2, rfl, SlR.grow (G := G) (G' := G1) (fun _ _ h => h) hl2 hg1, hn2⟩, by omega⟩ (Grow.refl _) (fun v G2 hg2 hq => W.mk ?_)
      have o1 := hq
      obtain ⟨w2, rfl, _⟩ := hq
      (conv => whnf)
      refine RelP.g (ok2 sitRd offRd fun s _ => Calm s) (x := (s, o)) ⟨_, _, rfl, sitRd.grow hg2 s1, o1, hcalm⟩ (Grow.refl _) (fun v G3 hg3 hq => W.mk ?_)
      obtain ⟨w3, rfl, hq⟩ := hq
      have hg03 := (hg1.trans hg2).trans hg3
      replace hl := SlR.grow (G := G) (G' := G3) (fun _ _ h => h) hl hg03
      replace hl2 := SlR.grow (G := G) (G' := G3) (fun _ _ h => h) hl2 hg03
      replace ql := SlR.grow (G := G) (G' := G3) (fun _ _ h => h) ql hg03
      simp only at hq
      dsimp only
      by_cases hE : rotaE s o = 0
      rotate_left
      · have h9 : rotaE s o = 9 := by
          rw [rotaE, if_pos he] at hE ⊢
          split at hE
          · rename_i h; rw [if_pos h]
          · exact absurd rfl hE
        rw [h9]
        rw [if_neg hE] at hq
        subst hq
        (conv => whnf)
        refine IteP.mk (fun h => by cases h) (fun _ => W.mk ?_)
        (conv => whnf)
        refine IteP.mk (fun _ => W.mk ?_) (fun h => absurd rfl h)
        (conv => whnf)
        (refine ScaP.g okU (G := fun _ => none) (x := ()) rfl (fun v hv => W.mk ?_); subst hv; (conv => whnf); refine ForkP.mk (fun _ => W.mk ?_) (fun h => by cases h); (conv => whnf); exact FinP.mk rfl)
      · rw [if_pos hE] at hq
        rw [hE]
        obtain ⟨a3, n3, c3, rfl, l3, hn3⟩ := hq
        (conv => whnf)
        refine IteP.mk (fun _ => W.mk ?_) (fun h => absurd rfl h)
        (conv => whnf)
        refine RelP.g (ok1 sitRd fun s => s.ps.length ≤ 1000) (x := s) ⟨_, rfl, ⟨_, rfl, a, n, c, rfl, hl, hn⟩, by omega⟩ (Grow.refl _) (fun v G4 hg4 hq => W.mk ?_)
        have s4 := hq
        obtain ⟨w4, rfl, _⟩ := hq
        (conv => whnf)
        refine RelP.g (ok1 sitRd fun s => Calm s) (x := s) ⟨_, rfl, s4, hcalm⟩ (Grow.refl _) (fun v G5 hg5 hq => W.mk ?_)
        obtain ⟨w5, rfl, hq⟩ := hq
        have hft : faultF s = 0 := by rw [faultF, if_pos hvS, if_neg (by omega)]
        rw [if_pos hft] at hq
        rw [hft]
        obtain ⟨a5, n5, c5, rfl, l5, hn5⟩ := hq
        have hg35 := hg4.trans hg5
        replace hl := SlR.grow (G := G3) (G' := G5) (fun _ _ h => h) hl hg35
        replace hl2 := SlR.grow (G := G3) (G' := G5) (fun _ _ h => h) hl2 hg35
        replace ql := SlR.grow (G := G3) (G' := G5) (fun _ _ h => h) ql hg35
        replace l3 := SlR.grow (G := G3) (G' := G5) (fun _ _ h => h) l3 hg35
        (conv => whnf)
        refine IteP.mk (fun _ => W.mk ?_) (fun h => absurd rfl h)
        (conv => whnf)
        have e5 : (takesF s).length = n5 := l5.len
        have hfar : ¬ farthestF (wkF s o) [] (-1) < (takesF s).length := fun h => by rw [rotaE, if_pos he, if_pos h] at hE; cases hE
        obtain ⟨hli, hri⟩ := rest_right (x := wkF s o) hfar
        obtain ⟨hlen, hrun⟩ := right_run.1 ⟨hli, hri⟩
        have hlen : (rotaF s o).length = (takesF s).length := hlen
        have e3 : (rotaF s o).length = n3 := l3.len
        have hok : validO o = true := ho
        simp only [validO, Bool.and_eq_true, inF, decide_eq_true_eq, List.all_eq_true] at hok
        obtain ⟨_, hfr, hdu, hde⟩ := hok
        have hmem := run_mem hrun
        have hmem : ∀ j ∈ rotaF s o, 0 ≤ j ∧ j < n2 := fun j hj => by have := hmem j hj; simp only [wkF] at this; omega
        repeat' (first | (refine OblP.mk ?_ (W.mk ?_); (first | trivial | omega | (simp only [inR]; omega) | exact Nat.le_of_ble_eq_true (by rfl) | exact SlR.some (by assumption) (by omega)); (conv => whnf)) | (first | (refine RdP.at (by assumption) (by rfl) (W.mk ?_); (conv => whnf)) | (refine RdP.sub (by assumption) (by rfl) (W.mk ?_); (conv => whnf)) | (refine RdP.sub2 (by assumption) (by rfl) (W.mk ?_); (conv => whnf)) | (refine RdP.sub3 (by assumption) (by rfl) (W.mk ?_); (conv => whnf))))
        refine RelP.mk trivial (fun v G6 hg6 hq => W.mk ?_)
        obtain ⟨pa, pc, rfl, hp⟩ := hq
        have hrow : SlV spanE G6 (.slice pa n5 pc) (List.replicate n5 ⟨0, 0⟩) := by
          rw [Int.toNat_natCast] at hp
          exact hp.slV (by rw [List.map_replicate]; rfl) (by simp) hn5
        rw [Int.toNat_natCast]
        replace hl := SlR.grow (G := G5) (G' := G6) (fun _ _ h => h) hl hg6
        replace hl2 := SlR.grow (G := G5) (G' := G6) (fun _ _ h => h) hl2 hg6
        replace ql := SlR.grow (G := G5) (G' := G6) (fun _ _ h => h) ql hg6
        replace l3 := SlR.grow (G := G5) (G' := G6) (fun _ _ h => h) l3 hg6
        replace l5 := SlR.grow (G := G5) (G' := G6) (fun _ _ h => h) l5 hg6
        (conv => whnf)
        refine ScaP.g (ok3 offRd (slRd spanE) (slRd intE) fun _ _ _ => True) (x := (o, List.replicate n5 ⟨0, 0⟩, rotaF s o)) ⟨_, _, _, rfl, ⟨_, rfl, a2, n2, c2, rfl, hl2, hn2⟩, hrow, ⟨a3, n3, c3, rfl, l3, hn3⟩, trivial⟩ (fun v hv => W.mk ?_)
        have hv : v = .bool true := by
          refine hv.trans (congrArg Value.bool ?_)
          simp only [Bool.and_eq_true, decide_eq_true_eq, List.all_eq_true, inF, List.length_replicate]
          exact ⟨by omega, fun j hj => by have := hmem j hj; omega⟩
        subst hv
        (conv => whnf)
        refine ForkP.mk (fun _ => W.mk ?_) (fun h => by cases h)
        (conv => whnf)
        refine LoopP.of { α := Nat × List Slow × Nat × List Value, fr := fun x => [(2, .v (.slice qa qn qc)), (3, .c (.ptr 0 0)), (4, .c (.ptr 1 0)), (7, .v (.slice a3 n3 c3)), (9, .v (.slice a5 n5 c5)), (11, .c (.row 2 x.2.2.1)), (12, .v (I x.1))], H := fun x => [(0, .cells .anon [.val (I s.len), .val (.slice a n c), .val (I s.long), .val (I s.short)] 24), (1, .cells .anon [.val (.slice a2 n2 c2), .val (I o.due), .val (I o.delay)] 45), (2, .row none x.2.2.1 x.2.2.2 71 2)], ok := fun x _ => x.1 ≤ n3 ∧ x.2.1.length = x.1 ∧ Row slowE x.2.1 x.2.2.1 x.2.2.2 ∧ ∀ j, j < x.1 → realF o ((rotaF s o).getD j 0) (x.2.1.getD j ⟨0, 0⟩) = true, m := fun x => n3 - x.1 }
          (0, [], 0, []) (HeadP.of [(2, none)] ⟨rfl, rfl, rfl, rfl, rfl, rfl, rfl, trivial⟩ ⟨rfl, rfl, rfl, trivial⟩) ⟨Nat.zero_le _, rfl, Row.nil, fun j h => absurd h (Nat.not_lt_zero _)⟩ (fun _ => ⟨rfl, rfl⟩) (fun x G7 hg7 hx => W.mk ?_)
        obtain ⟨i, rs, m, vs⟩ := x
        obtain ⟨hi, hrl, hr, hall⟩ := hx
        dsimp only at hi hrl hr hall
        dsimp only
        have hm := hr.n
        replace hl := SlR.grow (G := G6) (G' := G7) (fun _ _ h => h) hl hg7
        replace hl2 := SlR.grow (G := G6) (G' := G7) (fun _ _ h => h) hl2 hg7
        replace ql := SlR.grow (G := G6) (G' := G7) (fun _ _ h => h) ql hg7
        replace l3 := SlR.grow (G := G6) (G' := G7) (fun _ _ h => h) l3 hg7
        replace l5 := SlR.grow (G := G6) (G' := G7) (fun _ _ h => h) l5 hg7
        (conv => whnf)
        refine IteP.mk (fun hlt => W.mk ?_) (fun hge => W.mk ?_) <;> (conv => whnf)
        · have hil : i < (rotaF s o).length := by omega
          have hc3 := l3.el hil
          have hj := hmem _ (List.getElem_mem hil)
          have hjn : (rotaF s o)[i].toNat < o.crew.length := by omega
          have hc4 := hl2.el hjn
          have hgd : (rotaF s o).getD i 0 = (rotaF s o)[i] := by simp [hil]
          have hrep : repN o ((rotaF s o).getD i 0) = o.crew[(rotaF s o)[i].toNat] := by rw [hgd]; simp [repN, hjn]
          have hfine := hfr _ (List.getElem_mem hjn)
          generalize o.crew[(rotaF s o)[i].toNat] = p at hc4 hrep hfine
          simp only [fineR, inF, Bool.and_eq_true, decide_eq_true_eq] at hfine
          have hA : 0 ≤ p.lo ∧ p.lo ≤ p.hi ∧ p.hi ≤ 1000000 ∧ ∀ m ∈ q, m < 65536 := ⟨by omega, by omega, by omega, hq⟩
          have hB : 0 ≤ (0 : Int) ∧ 0 ≤ o.delay ∧ o.delay ≤ 1000000 ∧ ∀ m ∈ q, m < 65536 := ⟨by omega, by omega, by omega, hq⟩
          repeat' (first | (refine OblP.mk ?_ (W.mk ?_); (first | trivial | omega | (simp only [inR]; omega) | exact Nat.le_of_ble_eq_true (by rfl) | exact SlR.some (by assumption) (by omega)); (conv => whnf)) | (first | (refine RdP.at (by assumption) (by rfl) (W.mk ?_); (conv => whnf)) | (refine RdP.sub (by assumption) (by rfl) (W.mk ?_); (conv => whnf)) | (refine RdP.sub2 (by assumption) (by rfl) (W.mk ?_); (conv => whnf)) | (refine RdP.sub3 (by assumption) (by rfl) (W.mk ?_); (conv => whnf))))
          refine ScaP.g (ok4 intRd intRd (slU u16E) natRd fun lo hi l _ => 0 ≤ lo ∧ lo ≤ hi ∧ hi ≤ 1000000 ∧ ∀ m ∈ l, m < 65536) (x := (p.lo, p.hi, q, 2 * i)) ⟨_, _, _, _, rfl, rfl, rfl, ⟨qa, qn, qc, rfl, ql⟩, (show I (2 * (i : Int)) = I ((2 * i : Nat) : Int) from congrArg I (by omega)), hA⟩ (fun v hv => W.mk ?_)
          obtain ⟨k1, rfl, hk1, hk1'⟩ := hv
          (conv => whnf)
          repeat' (first | (refine OblP.mk ?_ (W.mk ?_); (first | trivial | omega | (simp only [inR]; omega) | exact Nat.le_of_ble_eq_true (by rfl) | exact SlR.some (by assumption) (by omega)); (conv => whnf)) | (first | (refine RdP.at (by assumption) (by rfl) (W.mk ?_); (conv => whnf)) | (refine RdP.sub (by assumption) (by rfl) (W.mk ?_); (conv => whnf)) | (refine RdP.sub2 (by assumption) (by rfl) (W.mk ?_); (conv => whnf)) | (refine RdP.sub3 (by assumption) (by rfl) (W.mk ?_); (conv => whnf))))
          refine ScaP.g (ok4 intRd intRd (slU u16E) natRd fun lo hi l _ => 0 ≤ lo ∧ lo ≤ hi ∧ hi ≤ 1000000 ∧ ∀ m ∈ l, m < 65536) (x := (0, o.delay, q, 2 * i + 1)) ⟨_, _, _, _, rfl, rfl, rfl, ⟨qa, qn, qc, rfl, ql⟩, (show I (2 * (i : Int) + 1) = I ((2 * i + 1 : Nat) : Int) from congrArg I (by omega)), hB⟩ (fun v hv => W.mk ?_)
          obtain ⟨k2, rfl, hk2, hk2'⟩ := hv
          dsimp only at hk1 hk1' hk2 hk2'
          (conv => whnf)
          repeat' (first | (refine OblP.mk ?_ (W.mk ?_); (first | trivial | omega | (simp only [inR]; omega) | exact Nat.le_of_ble_eq_true (by rfl) | exact SlR.some (by assumption) (by omega)); (conv => whnf)) | (first | (refine RdP.at (by assumption) (by rfl) (W.mk ?_); (conv => whnf)) | (refine RdP.sub (by assumption) (by rfl) (W.mk ?_); (conv => whnf)) | (refine RdP.sub2 (by assumption) (by rfl) (W.mk ?_); (conv => whnf)) | (refine RdP.sub3 (by assumption) (by rfl) (W.mk ?_); (conv => whnf))))
          refine RoundP.of (i + 1, rs ++ [⟨k1, k2⟩], m + 1, vs ++ [I k1, I k2]) (HeadP.of [(2, some 83)] ⟨rfl, rfl, rfl, rfl, rfl, rfl, rfl, trivial⟩ ⟨rfl, rfl, rfl, trivial⟩) ⟨by show i + 1 ≤ n3; omega, by simp [hrl], hr.snoc _, fun j hj => ?_⟩ (by simp only; omega)
          by_cases hji : j = i
          · subst hji
            have e : (rs ++ [(⟨k1, k2⟩ : Slow)]).getD j ⟨0, 0⟩ = ⟨k1, k2⟩ := by simp [hrl]
            show realF o _ ((rs ++ [(⟨k1, k2⟩ : Slow)]).getD j ⟨0, 0⟩) = true
            rw [e, realF, hrep]
            simp only [inF, Bool.and_eq_true, decide_eq_true_eq]
            exact ⟨⟨hk1, hk1'⟩, hk2, hk2'⟩
          · have hj' : j < i := by simp only at hj; omega
            have e : (rs ++ [(⟨k1, k2⟩ : Slow)]).getD j ⟨0, 0⟩ = rs.getD j ⟨0, 0⟩ := by simp [List.getElem?_append_left (show j < rs.length by omega)]
            show realF o _ ((rs ++ [(⟨k1, k2⟩ : Slow)]).getD j ⟨0, 0⟩) = true
            rw [e]; exact hall j hj'
        · have : i = n3 := by omega
          subst this
          refine PubP.mk (fun ra rc G8 hg8 hp => W.mk ?_)
          have hreals : SlV slowE G8 (.slice ra m rc) rs := hr.pub hp (by omega)
          replace hl := SlR.grow (G := G7) (G' := G8) (fun _ _ h => h) hl hg8
          replace hl2 := SlR.grow (G := G7) (G' := G8) (fun _ _ h => h) hl2 hg8
          replace l3 := SlR.grow (G := G7) (G' := G8) (fun _ _ h => h) l3 hg8
          replace l5 := SlR.grow (G := G7) (G' := G8) (fun _ _ h => h) l5 hg8
          (conv => whnf)
          refine RelP.g (ok1 sitRd fun s => s.ps.length ≤ 1000) (x := s) ⟨_, rfl, ⟨_, rfl, a, n, c, rfl, hl, hn⟩, by omega⟩ (Grow.refl _) (fun v G9 hg9 hq => W.mk ?_)
          have s9 := hq
          obtain ⟨w9, rfl, _⟩ := hq
          (conv => whnf)
          refine RelP.g (ok1 offRd fun o => o.crew.length ≤ 1000) (x := o) ⟨_, rfl, ⟨_, rfl, a2, n2, c2, rfl, SlR.grow (G := G8) (G' := G9) (fun _ _ h => h) hl2 hg9, hn2⟩, by omega⟩ (Grow.refl _) (fun v G10 hg10 hq => W.mk ?_)
          have o10 := hq
          obtain ⟨w10, rfl, _⟩ := hq
          (conv => whnf)
          refine RelP.g (ok1 (slRd intE) fun l => l.length ≤ 8796093022207) (x := rotaF s o) ⟨_, rfl, SlV.grow (hg9.trans hg10) ⟨a3, i, c3, rfl, l3, hn3⟩, by omega⟩ (Grow.refl _) (fun v G11 hg11 hq => W.mk ?_)
          have r11 := hq
          obtain ⟨a11, n11, c11, rfl, l11, hn11⟩ := hq
          (conv => whnf)
          have hg811 := (hg9.trans hg10).trans hg11
          refine RelP.g (ok4 sitRd offRd (slRd intE) (slRd slowE) fun s _ _ _ => Calm s) (x := (s, o, rotaF s o, rs)) ⟨_, _, _, _, rfl, sitRd.grow (hg10.trans hg11) s9, offRd.grow hg11 o10, r11, hreals.grow hg811, hcalm⟩ (Grow.refl _) (fun v G12 hg12 hq => W.mk ?_)
          obtain ⟨w12, rfl, hq⟩ := hq
          dsimp only at hq
          dsimp only
          have hD0 : doneE s o (rotaF s o) rs = 0 := by
            rw [doneE, if_pos he, if_pos (show listedF (wkF s o) (rotaF s o) = true from hli), if_pos (by omega), if_pos]
            rw [realsF, List.all_eq_true]
            exact fun j hj => hall j (by rw [← hrl]; exact List.mem_range.1 hj)
          rw [if_pos hD0] at hq
          rw [hD0]
          obtain ⟨a12, n12, c12, rfl, l12, hn12⟩ := hq
          have hg812 := hg811.trans hg12
          replace hl2 := SlR.grow (G := G8) (G' := G12) (fun _ _ h => h) hl2 hg812
          replace l3 := SlR.grow (G := G8) (G' := G12) (fun _ _ h => h) l3 hg812
          replace l5 := SlR.grow (G := G8) (G' := G12) (fun _ _ h => h) l5 hg812
          have e12 : i = n12 := by have := l12.len; simp only [donesF, List.length_map, List.length_range] at this; omega
          (conv => whnf)
          refine IteP.mk (fun _ => W.mk ?_) (fun h => absurd rfl h)
          (conv => whnf)
          refine IteP.mk (fun _ => W.mk ?_) (fun h => by omega)
          (conv => whnf)
          have hch : chain 0 (wkF s o).t := takes_chain hvS
          have hbd := takes_bd hvS
          have hany := any_law hch hc.2 (show (rotaF s o).length = (wkF s o).t.length from hlen) hrun
          have hgd : ∀ j (hj : j < (rotaF s o).length), (rotaF s o).getD j 0 = (rotaF s o)[j] := fun j hj => by simp [hj]
          have htk : ∀ j (hj : j < (takesF s).length), takeN (wkF s o) j = (takesF s)[j] := fun j hj => by simp [takeN, wkF, hj]
          have hDn : ∀ j (hj : j < (takesF s).length) (hj2 : j < (donesF (takesF s) rs rs.length).length), (takesF s)[j].to ≤ (donesF (takesF s) rs rs.length)[j] ∧ (donesF (takesF s) rs rs.length)[j] ≤ doneW (wkF s o) j ((rotaF s o).getD j 0).toNat := fun j hj hj2 => by
            have hr := realF_iff.1 (hall j (by omega))
            have hjr : j < rs.length := by omega
            have e : (donesF (takesF s) rs rs.length)[j] = doneF (takesF s)[j] (rs.getD j ⟨0, 0⟩) := by
              simp [donesF, hj, hjr]
            have hb := hbd _ (List.getElem_mem hj)
            have hjm := hmem _ (List.getElem_mem (show j < (rotaF s o).length by omega))
            have hjn : (rotaF s o)[j].toNat < o.crew.length := by omega
            have hfine := hfr _ (List.getElem_mem hjn)
            have hrp : o.crew.getD ((rotaF s o).getD j 0).toNat ⟨0, 0, 0⟩ = o.crew[(rotaF s o)[j].toNat] := by rw [hgd j (by omega)]; simp [hjn]
            rw [e, done_eq, htk j hj]
            refine done_mono (x := wkF s o) hr.1.2 hr.2.2 ?_ hr.2.1 hb.2.1
            have h0 : 0 ≤ (o.crew.getD ((rotaF s o).getD j 0).toNat ⟨0, 0, 0⟩).lo := by
              rw [hrp]; simp only [fineR, Bool.and_eq_true, decide_eq_true_eq] at hfine; exact hfine.1.1
            exact Int.le_trans h0 hr.1.1
          refine LoopP.of { α := Nat, fr := fun x => [(3, .c (.ptr 0 0)), (4, .c (.ptr 1 0)), (7, .v (.slice a3 i c3)), (9, .v (.slice a5 n5 c5)), (14, .v (.slice a12 n12 c12)), (16, .v (I x))], H := fun x => [(0, .cells .anon [.val (I s.len), .val (.slice a n c), .val (I s.long), .val (I s.short)] 24), (1, .cells .anon [.val (.slice a2 n2 c2), .val (I o.due), .val (I o.delay)] 45)], ok := fun x _ => x ≤ i, m := fun x => i - x }
            0 (HeadP.of [] ⟨rfl, rfl, rfl, rfl, rfl, rfl, trivial⟩ ⟨rfl, rfl, trivial⟩) (Nat.zero_le _) (fun _ => ⟨rfl, rfl⟩) (fun (j : Nat) G13 hg13 hj => W.mk ?_)
          replace hj : j ≤ i := hj
          replace hl := SlR.grow (G := G8) (G' := G13) (fun _ _ h => h) hl (hg812.trans hg13)
          replace hl2 := SlR.grow (G := G12) (G' := G13) (fun _ _ h => h) hl2 hg13
          replace l3 := SlR.grow (G := G12) (G' := G13) (fun _ _ h => h) l3 hg13
          replace l5 := SlR.grow (G := G12) (G' := G13) (fun _ _ h => h) l5 hg13
          replace l12 := SlR.grow (G := G12) (G' := G13) (fun _ _ h => h) l12 hg13
          dsimp only
          (conv => whnf)
          refine IteP.mk (fun hlt => W.mk ?_) (fun hge => W.mk ?_) <;> (conv => whnf)
          · have hjt : j < (takesF s).length := by omega
            have hjd : j < (donesF (takesF s) rs rs.length).length := by rw [l12.len]; omega
            have hjr : j < (rotaF s o).length := by omega
            have hc1 := l12.el hjd
            have hc5 := l5.el hjt
            have hc3 := l3.el hjr
            have hd := hDn j hjt hjd
            have hb := hbd _ (List.getElem_mem hjt)
            have ha := hany j hjr
            have hdu2 : (wkF s o).o.due = o.due := rfl
            rw [htk j hjt, hdu2] at ha
            have hs36 := (validF_iff.1 hvS).2.1
            have hjm := hmem _ (List.getElem_mem hjr)
            have hjn : (rotaF s o)[j].toNat < o.crew.length := by omega
            have hc4 := hl2.el hjn
            have hrn : restN (wkF s o) ((rotaF s o).getD j 0).toNat = o.crew[(rotaF s o)[j].toNat].rest := by rw [hgd j hjr]; simp [restN, wkF, hjn]
            have hfine := hfr _ (List.getElem_mem hjn)
            simp only [fineR, inF, Bool.and_eq_true, decide_eq_true_eq] at hfine
            generalize hgD : (donesF (takesF s) rs rs.length)[j] = D at hc1 hd
            generalize doneW (wkF s o) j ((rotaF s o).getD j 0).toNat = DW at hd ha
            repeat' (first | (refine IteP.mk (fun _ => W.mk ?_) (fun _ => W.mk ?_) <;> first | (exfalso; omega) | (conv => whnf)) | (refine OblP.mk ?_ (W.mk ?_); (first | trivial | omega | (simp only [inR]; omega) | exact Nat.le_of_ble_eq_true (by rfl) | exact SlR.some (by assumption) (by omega)); (conv => whnf)) | (first | (refine RdP.at (by assumption) (by rfl) (W.mk ?_); (conv => whnf)) | (refine RdP.sub (by assumption) (by rfl) (W.mk ?_); (conv => whnf)) | (refine RdP.sub2 (by assumption) (by rfl) (W.mk ?_); (conv => whnf)) | (refine RdP.sub3 (by assumption) (by rfl) (W.mk ?_); (conv => whnf))))
            refine LoopP.of { α := Nat, fr := fun x => [(3, .c (.ptr 0 0)), (4, .c (.ptr 1 0)), (7, .v (.slice a3 i c3)), (9, .v (.slice a5 n5 c5)), (14, .v (.slice a12 n12 c12)), (16, .v (I j)), (17, .v (I x))], H := fun x => [(0, .cells .anon [.val (I s.len), .val (.slice a n c), .val (I s.long), .val (I s.short)] 24), (1, .cells .anon [.val (.slice a2 n2 c2), .val (I o.due), .val (I o.delay)] 45)], ok := fun x _ => x ≤ i ∧ j < x, m := fun x => i - x }
              (j + 1) (HeadP.of [] ⟨rfl, rfl, rfl, rfl, rfl, rfl, rfl, trivial⟩ ⟨rfl, rfl, trivial⟩) ⟨by omega, by omega⟩ (fun _ => ⟨rfl, rfl⟩) (fun (k : Nat) G14 hg14 hk => W.mk ?_)
            obtain ⟨hk, hjk⟩ : k ≤ i ∧ j < k := hk
            replace l3 := SlR.grow (G := G13) (G' := G14) (fun _ _ h => h) l3 hg14
            replace l5 := SlR.grow (G := G13) (G' := G14) (fun _ _ h => h) l5 hg14
            replace hc1 := hc1.grow hg14
            replace hc3 := hc3.grow hg14
            replace hc4 := hc4.grow hg14
            dsimp only
            (conv => whnf)
            refine IteP.mk (fun hlt2 => W.mk ?_) (fun hge2 => W.mk ?_) <;> (conv => whnf)
            · have hkt : k < (takesF s).length := by omega
              have hkr : k < (rotaF s o).length := by omega
              have hck5 := l5.el hkt
              have hck3 := l3.el hkr
              have hak := (hany k hkr).2 j hjk
              rw [htk k hkt, hgd k hkr, hgd j hjr] at hak
              rw [hgd j hjr] at hrn
              have hle : (rotaF s o)[k] = (rotaF s o)[j] → D + o.crew[(rotaF s o)[j].toNat].rest ≤ (takesF s)[k].fr := fun h => by
                have h1 := hak h
                have h2 := hd.2
                have h3 := (hDn j hjt hjd).2
                rw [hgD, hgd j hjr] at h3
                rw [hrn] at h1
                omega
              repeat' (first | (refine OblP.mk ?_ (W.mk ?_); (first | trivial | omega | (simp only [inR]; omega) | exact Nat.le_of_ble_eq_true (by rfl) | exact SlR.some (by assumption) (by omega)); (conv => whnf)) | (first | (refine RdP.at (by assumption) (by rfl) (W.mk ?_); (conv => whnf)) | (refine RdP.sub (by assumption) (by rfl) (W.mk ?_); (conv => whnf)) | (refine RdP.sub2 (by assumption) (by rfl) (W.mk ?_); (conv => whnf)) | (refine RdP.sub3 (by assumption) (by rfl) (W.mk ?_); (conv => whnf))))
              refine IteP.mk (fun hsame => W.mk ?_) (fun hsame => W.mk ?_) <;> (conv => whnf)
              · have hle := hle hsame
                repeat' (first | (refine IteP.mk (fun _ => W.mk ?_) (fun _ => W.mk ?_) <;> first | (exfalso; omega) | (conv => whnf)) | (refine OblP.mk ?_ (W.mk ?_); (first | trivial | omega | (simp only [inR]; omega) | exact Nat.le_of_ble_eq_true (by rfl) | exact SlR.some (by assumption) (by omega)); (conv => whnf)) | (first | (refine RdP.at (by assumption) (by rfl) (W.mk ?_); (conv => whnf)) | (refine RdP.sub (by assumption) (by rfl) (W.mk ?_); (conv => whnf)) | (refine RdP.sub2 (by assumption) (by rfl) (W.mk ?_); (conv => whnf)) | (refine RdP.sub3 (by assumption) (by rfl) (W.mk ?_); (conv => whnf))))
                exact RoundP.of (k + 1) (HeadP.of [] ⟨rfl, rfl, rfl, rfl, rfl, rfl, rfl, trivial⟩ ⟨rfl, rfl, trivial⟩) ⟨by show k + 1 ≤ i; omega, by show j < k + 1; omega⟩ (by show i - (k + 1) < i - k; omega)
              · repeat' (first | (refine IteP.mk (fun _ => W.mk ?_) (fun _ => W.mk ?_) <;> first | (exfalso; omega) | (conv => whnf)) | (refine OblP.mk ?_ (W.mk ?_); (first | trivial | omega | (simp only [inR]; omega) | exact Nat.le_of_ble_eq_true (by rfl) | exact SlR.some (by assumption) (by omega)); (conv => whnf)) | (first | (refine RdP.at (by assumption) (by rfl) (W.mk ?_); (conv => whnf)) | (refine RdP.sub (by assumption) (by rfl) (W.mk ?_); (conv => whnf)) | (refine RdP.sub2 (by assumption) (by rfl) (W.mk ?_); (conv => whnf)) | (refine RdP.sub3 (by assumption) (by rfl) (W.mk ?_); (conv => whnf))))
                exact RoundP.of (k + 1) (HeadP.of [] ⟨rfl, rfl, rfl, rfl, rfl, rfl, rfl, trivial⟩ ⟨rfl, rfl, trivial⟩) ⟨by show k + 1 ≤ i; omega, by show j < k + 1; omega⟩ (by show i - (k + 1) < i - k; omega)
            · repeat' (first | (refine IteP.mk (fun _ => W.mk ?_) (fun _ => W.mk ?_) <;> first | (exfalso; omega) | (conv => whnf)) | (refine OblP.mk ?_ (W.mk ?_); (first | trivial | omega | (simp only [inR]; omega) | exact Nat.le_of_ble_eq_true (by rfl) | exact SlR.some (by assumption) (by omega)); (conv => whnf)) | (first | (refine RdP.at (by assumption) (by rfl) (W.mk ?_); (conv => whnf)) | (refine RdP.sub (by assumption) (by rfl) (W.mk ?_); (conv => whnf)) | (refine RdP.sub2 (by assumption) (by rfl) (W.mk ?_); (conv => whnf)) | (refine RdP.sub3 (by assumption) (by rfl) (W.mk ?_); (conv => whnf))))
              exact RoundP.of (j + 1) (HeadP.of [] ⟨rfl, rfl, rfl, rfl, rfl, rfl, trivial⟩ ⟨rfl, rfl, trivial⟩) (by show j + 1 ≤ i; omega) (by show i - (j + 1) < i - j; omega)
          · refine RelP.g (ok1 sitRd fun s => s.ps.length ≤ 1000) (x := s) ⟨_, rfl, ⟨_, rfl, a, n, c, rfl, hl, hn⟩, by omega⟩ (Grow.refl _) (fun v G14 hg14 hq => W.mk ?_)
            have s14 := hq
            obtain ⟨w14, rfl, _⟩ := hq
            (conv => whnf)
            refine RelP.g (ok1 offRd fun o => o.crew.length ≤ 1000) (x := o) ⟨_, rfl, ⟨_, rfl, a2, n2, c2, rfl, SlR.grow (G := G13) (G' := G14) (fun _ _ h => h) hl2 hg14, hn2⟩, by omega⟩ (Grow.refl _) (fun v G15 hg15 hq => W.mk ?_)
            have o15 := hq
            obtain ⟨w15, rfl, _⟩ := hq
            (conv => whnf)
            refine RelP.g (ok1 (slRd intE) fun l => l.length ≤ 8796093022207) (x := rotaF s o) ⟨_, rfl, SlV.grow (hg14.trans hg15) ⟨a3, i, c3, rfl, l3, hn3⟩, by omega⟩ (Grow.refl _) (fun v G16 hg16 hq => W.mk ?_)
            have r16 := hq
            obtain ⟨a16, n16, c16, rfl, l16, hn16⟩ := hq
            (conv => whnf)
            refine ScaP.g (ok3 sitRd offRd (slRd intE) fun s _ _ => Calm s) (x := (s, o, rotaF s o)) ⟨_, _, _, rfl, sitRd.grow (hg15.trans hg16) s14, offRd.grow hg16 o15, r16, hcalm⟩ (fun v hv => W.mk ?_)
            have hv : v = .bool true := by
              refine hv.trans (congrArg Value.bool ?_)
              show proveF s o (rotaF s o) = true
              rw [proveF, decide_eq_true he, (show listedF (wkF s o) (rotaF s o) = true from hli), (show rightF (wkF s o) (rotaF s o) = true from hri)]; rfl
            subst hv
            (conv => whnf)
            refine ForkP.mk (fun _ => W.mk ?_) (fun h => by cases h)
            (conv => whnf)
            (refine ScaP.g okU (G := fun _ => none) (x := ()) rfl (fun v hv => W.mk ?_); subst hv; (conv => whnf); refine ForkP.mk (fun _ => W.mk ?_) (fun h => by cases h); (conv => whnf); exact FinP.mk rfl)
end Go.Proofs.Ytcmhpndhloplpaa

namespace Go.Proofs.Ytcmhpndhloplpaa
open Go.Pal

set_option maxRecDepth 100000
set_option maxHeartbeats 1000000

theorem SlR.g {α : Type} {e : El α} {G G' : Hp} {a : Option Addr} {n c : Nat} {l : List α} (h : SlR e.k e.R G a n c l) (g : Grow G G') : SlR e.k e.R G' a n c l := SlR.grow (G := G) (G' := G') (fun _ _ h => h) h g
theorem rotaE_or {s : Sit} {o : Off} (he : errW s o = 0) : rotaE s o = 0 ∨ rotaE s o = 9 := by
  rw [rotaE, if_pos he]; split <;> simp
/-- A sitting that ends with its take n. -/
theorem cut_far {s : Sit} {o : Off} (he : errW s o = 0) {n : Nat} (hn : n < (takesF s).length) : errW (cutF s (takesF s)[n].to) o = 0 ∧ (takesF (cutF s (takesF s)[n].to)).length = n + 1 ∧ ((∃ e, e.length = n + 1 ∧ Run (wkF (cutF s (takesF s)[n].to) o) (-1) startF e) ↔ n + 1 ≤ farthestF (wkF s o) [] (-1)) := by
  obtain ⟨hv, ht, ho⟩ := err0 he
  obtain ⟨c1, c2⟩ := takes_cut hv hn
  have hlen : (takesF (cutF s (takesF s)[n].to)).length = n + 1 := by rw [c2]; simp; omega
  have htk : ∀ k, k < n + 1 → takeN (wkF s o) k = takeN (wkF (cutF s (takesF s)[n].to) o) k := fun k hk => by
    have e1 : takeN (wkF s o) k = (takesF s)[k]'(by omega) := by simp [takeN, wkF, show k < (takesF s).length by omega]
    have e2 : takeN (wkF (cutF s (takesF s)[n].to) o) k = ((takesF s).take (n + 1))[k]'(by simp; omega) := by
      simp only [takeN, wkF, c2]
      rw [List.getD_eq_getElem?_getD, List.getElem?_eq_getElem (by simp; omega)]; rfl
    rw [e1, e2, List.getElem_take]
  refine ⟨?_, hlen, ?_⟩
  · rw [errW, if_pos, if_pos ho]
    rw [faultF, if_pos c1, if_neg (by omega)]
  · constructor
    · rintro ⟨e, h1, h2⟩
      have := run_mono (x := wkF (cutF s (takesF s)[n].to) o) (x' := wkF s o) (N := n + 1) (fun t i hs hlt hi hm => ⟨hi, by rw [may_eq (x := wkF s o) (x' := wkF (cutF s (takesF s)[n].to) o) rfl htk hs hlt]; exact hm⟩) HadLt.start (by show 0 + e.length ≤ n + 1; omega) h2
      have := reach_run (f := (takesF s).length) (by omega) this
      have e0 : startF.n = 0 := rfl
      show n + 1 ≤ reachF (wkF s o) (-1) ((takesF s).length - 0) startF
      rw [Nat.sub_zero]; omega
    · intro h
      obtain ⟨e, h1, h2, h3⟩ := reach_got (x := wkF s o) (skip := -1) (f := (takesF s).length) (s := startF)
      have h3 : 0 + e.length = farthestF (wkF s o) [] (-1) := h3
      have hr : Run (wkF s o) (-1) startF (e.take (n + 1)) := (run_append.1 (by rw [List.take_append_drop]; exact h2)).1
      refine ⟨e.take (n + 1), by simp; omega, run_mono (x := wkF s o) (x' := wkF (cutF s (takesF s)[n].to) o) (N := n + 1) (fun t i hs hlt hi hm => ⟨hi, by rw [← may_eq (x := wkF s o) (x' := wkF (cutF s (takesF s)[n].to) o) rfl htk hs hlt]; exact hm⟩) HadLt.start (by show 0 + (e.take (n + 1)).length ≤ n + 1; simp; omega) hr⟩
theorem prove_run {s : Sit} {o : Off} {l : List Int} : proveF s o l = true ↔ errW s o = 0 ∧ l.length = (takesF s).length ∧ Run (wkF s o) (-1) startF l := by
  rw [proveF, Bool.and_eq_true, Bool.and_eq_true, decide_eq_true_eq, right_run]; rfl
theorem rota_run {s : Sit} {o : Off} (he : errW s o = 0) : rotaE s o = 0 ↔ ∃ e, e.length = (takesF s).length ∧ Run (wkF s o) (-1) startF e := by
  have hle := far_le (x := wkF s o) (l := []) (skip := -1) (Nat.zero_le _)
  have hle : farthestF (wkF s o) [] (-1) ≤ (takesF s).length := hle
  rw [rotaE, if_pos he]
  constructor
  · intro h
    split at h
    · cases h
    · obtain ⟨l, hl⟩ := far_iff.1 (show farthestF (wkF s o) [] (-1) = (wkF s o).t.length by show _ = (takesF s).length; omega)
      exact ⟨l, right_run.1 hl⟩
  · rintro ⟨e, h⟩
    have := far_iff.2 ⟨e, (right_run (x := wkF s o)).2 h⟩
    have : farthestF (wkF s o) [] (-1) = (takesF s).length := this
    rw [if_neg (by omega)]
theorem law5 : Sound Try.prog 5 id (gsca (args3 sitU offU (slU intE) fun _ _ _ => True) fun _ v => v = .bool true) := by
  refine comp5.gsca tabW (fun args G s h => ?_) (fun args G x h => ?_)
  · obtain ⟨u, v, w, rfl, _⟩ := h; simp
  · obtain ⟨s, o, q⟩ := x
    obtain ⟨u, v, w, rfl, ⟨w1, rfl, a, n, c, rfl, hl⟩, ⟨w2, rfl, a2, n2, c2, rfl, hl2⟩, ⟨qa, qn, qc, rfl, ql⟩, _⟩ := h
    have e1 := hl.len
    have e2 := hl2.len
    have eq := ql.len
    dsimp only at hl hl2 ql e1 e2 eq
    dsimp only
    (conv => whnf)
    refine ScaP.g (ok2 sitU offU fun _ _ => True) (x := (s, o)) ⟨_, _, rfl, ⟨_, rfl, a, n, c, rfl, hl⟩, ⟨_, rfl, a2, n2, c2, rfl, hl2⟩, trivial⟩ (fun v hv => W.mk ?_)
    subst hv
    (conv => whnf)
    refine ForkP.mk (fun hready => W.mk ?_) (fun hready => W.mk ?_) <;> (conv => whnf)
    rotate_left
    · (refine ScaP.g okU (G := fun _ => none) (x := ()) rfl (fun v hv => W.mk ?_); subst hv; (conv => whnf); refine ForkP.mk (fun _ => W.mk ?_) (fun h => by cases h); (conv => whnf); exact FinP.mk rfl)
    · have hready : readyF s o = true := hready
      simp only [readyF, thinF, Bool.and_eq_true, decide_eq_true_eq] at hready
      obtain ⟨⟨hps, hcr⟩, he⟩ := hready
      obtain ⟨hvS, ht, ho⟩ := err0 he
      have hcalm := valid_calm hvS
      refine IteP.mk (fun h45 => W.mk ?_) (fun h45 => W.mk ?_) <;> (conv => whnf)
      · (refine ScaP.g okU (G := fun _ => none) (x := ()) rfl (fun v hv => W.mk ?_); subst hv; (conv => whnf); refine ForkP.mk (fun _ => W.mk ?_) (fun h => by cases h); (conv => whnf); exact FinP.mk rfl)
      · have hS0 : SitV G (.agg #[I s.len, .slice a n c, I s.long, I s.short]) s := ⟨_, rfl, a, n, c, rfl, hl, by omega⟩
        have hO0 : OffV G (.agg #[.slice a2 n2 c2, I o.due, I o.delay]) o := ⟨_, rfl, a2, n2, c2, rfl, hl2, by omega⟩
        have hQ0 : SlV intE G (.slice qa qn qc) q := ⟨qa, qn, qc, rfl, ql, by omega⟩
        have hps1 : s.ps.length ≤ 1000 := by omega
        have hcr1 : o.crew.length ≤ 1000 := by omega
        have hg0 := Grow.refl G
        refine RelP.g (ok1 sitRd fun s => s.ps.length ≤ 1000) (x := s) ⟨_, rfl, sitRd.grow hg0 hS0, hps1⟩ (Grow.refl _) (fun v G1 h1 hq => W.mk ?_); have hg1 := hg0.trans h1; have s1 := hq; obtain ⟨w1, rfl, _⟩ := hq; (conv => whnf)
        refine RelP.g (ok1 offRd fun o => o.crew.length ≤ 1000) (x := o) ⟨_, rfl, offRd.grow hg1 hO0, hcr1⟩ (Grow.refl _) (fun v G2 h2 hq => W.mk ?_); have hg2 := hg1.trans h2; have o2 := hq; obtain ⟨w2, rfl, _⟩ := hq; (conv => whnf)
        refine RelP.g (ok2 sitRd offRd fun s _ => Calm s) (x := (s, o)) ⟨_, _, rfl, sitRd.grow h2 s1, o2, hcalm⟩ (Grow.refl _) (fun v G3 h3 hq => W.mk ?_)
        have hg3 := hg2.trans h3
        obtain ⟨w3, rfl, hq⟩ := hq
        dsimp only at hq
        dsimp only
        have hsh : (∃ a3 n3 c3, w3 = .slice a3 n3 c3) := by
          split at hq
          · obtain ⟨a3, n3, c3, rfl, _⟩ := hq; exact ⟨a3, n3, c3, rfl⟩
          · exact ⟨_, _, _, hq⟩
        obtain ⟨a3, n3, c3, rfl⟩ := hsh
        (conv => whnf)
        refine RelP.g (ok1 sitRd fun s => s.ps.length ≤ 1000) (x := s) ⟨_, rfl, sitRd.grow hg3 hS0, hps1⟩ (Grow.refl _) (fun v G4 h4 hq => W.mk ?_); have hg4 := hg3.trans h4; have s4 := hq; obtain ⟨w4, rfl, _⟩ := hq; (conv => whnf)
        refine RelP.g (ok1 offRd fun o => o.crew.length ≤ 1000) (x := o) ⟨_, rfl, offRd.grow hg4 hO0, hcr1⟩ (Grow.refl _) (fun v G5 h5 hq => W.mk ?_); have hg5 := hg4.trans h5; have o5 := hq; obtain ⟨w5, rfl, _⟩ := hq; (conv => whnf)
        refine ScaP.g (ok2 sitRd offRd fun s _ => Calm s) (x := (s, o)) ⟨_, _, rfl, sitRd.grow h5 s4, o5, hcalm⟩ (fun v hv => W.mk ?_)
        subst hv
        dsimp only
        (conv => whnf)
        have hle := far_le (x := wkF s o) (l := []) (skip := -1) (Nat.zero_le _)
        have hle : farthestF (wkF s o) [] (-1) ≤ (takesF s).length := hle
        refine IteP.mk (fun hE => W.mk ?_) (fun hE => W.mk ?_) <;> (conv => whnf)
        · have h7 : failsE s o = 7 := by
            rw [rotaE, if_pos he] at hE
            rw [failsE, if_pos he, if_pos]
            split at hE
            · cases hE
            · omega
          rw [h7]
          refine IteP.mk (fun _ => W.mk ?_) (fun h => absurd rfl h)
          (conv => whnf)
          (refine ScaP.g okU (G := fun _ => none) (x := ()) rfl (fun v hv => W.mk ?_); subst hv; (conv => whnf); refine ForkP.mk (fun _ => W.mk ?_) (fun h => by cases h); (conv => whnf); exact FinP.mk rfl)
        · have h9 : rotaE s o = 9 := (rotaE_or he).resolve_left hE
          have hfar : farthestF (wkF s o) [] (-1) < (takesF s).length := by
            rw [rotaE, if_pos he] at h9
            split at h9
            · assumption
            · cases h9
          have hfe : failsE s o = 0 := by rw [failsE, if_pos he, if_neg (by omega)]
          have hfv : failsV s o = farthestF (wkF s o) [] (-1) := by rw [failsV, if_pos hfe]
          rw [h9, hfe, hfv]
          generalize hF : farthestF (wkF s o) [] (-1) = F at hle hfar
          refine RelP.g (ok1 sitRd fun s => s.ps.length ≤ 1000) (x := s) ⟨_, rfl, sitRd.grow hg5 hS0, hps1⟩ (Grow.refl _) (fun v G6 h6 hq => W.mk ?_); have hg6 := hg5.trans h6; have s6 := hq; obtain ⟨w6, rfl, _⟩ := hq; (conv => whnf)
          refine RelP.g (ok1 sitRd fun s => Calm s) (x := s) ⟨_, rfl, s6, hcalm⟩ (Grow.refl _) (fun v G7 h7 hq => W.mk ?_)
          have hg7 := hg6.trans h7
          obtain ⟨w7, rfl, hq⟩ := hq
          have hft : faultF s = 0 := by rw [faultF, if_pos hvS, if_neg (by omega)]
          rw [if_pos hft] at hq
          rw [hft]
          obtain ⟨a7, n7, c7, rfl, l7, hn7⟩ := hq
          have e7 : (takesF s).length = n7 := l7.len
          (conv => whnf)
          iterate 3 (refine IteP.mk (fun _ => W.mk ?_) (fun h => absurd rfl h); (conv => whnf))
          repeat' (refine IteP.mk (fun _ => W.mk ?_) (fun _ => W.mk ?_) <;> first | (exfalso; omega) | (conv => whnf))
          refine RelP.g (ok1 sitRd fun s => s.ps.length ≤ 1000) (x := s) ⟨_, rfl, sitRd.grow hg7 hS0, hps1⟩ (Grow.refl _) (fun v G8 h8 hq => W.mk ?_); have hg8 := hg7.trans h8; have s8 := hq; obtain ⟨w8, rfl, _⟩ := hq; (conv => whnf)
          refine RelP.g (ok1 offRd fun o => o.crew.length ≤ 1000) (x := o) ⟨_, rfl, offRd.grow hg8 hO0, hcr1⟩ (Grow.refl _) (fun v G9 h9 hq => W.mk ?_); have hg9 := hg8.trans h9; have o9 := hq; obtain ⟨w9, rfl, _⟩ := hq; (conv => whnf)
          refine RelP.g (ok1 (slRd intE) fun l => l.length ≤ 8796093022207) (x := q) ⟨_, rfl, hQ0.grow hg9, (by omega)⟩ (Grow.refl _) (fun v G10 h10 hq => W.mk ?_); have hg10 := hg9.trans h10; have r10 := hq; obtain ⟨a10, n10, c10, rfl, l10, hn10⟩ := hq; (conv => whnf)
          refine ScaP.g (ok3 sitRd offRd (slRd intE) fun s _ _ => Calm s) (x := (s, o, q)) ⟨_, _, _, rfl, sitRd.grow (h9.trans h10) s8, offRd.grow h10 o9, r10, hcalm⟩ (fun v hv => W.mk ?_)
          have hv : v = .bool false := by
            refine hv.trans (congrArg Value.bool ?_)
            show proveF s o q = false
            rw [← Bool.not_eq_true, prove_run]
            rintro ⟨_, k1, k2⟩
            have := (rota_run he).2 ⟨q, k1, k2⟩
            omega
          subst hv
          (conv => whnf)
          refine ForkP.mk (fun h => by cases h) (fun _ => W.mk ?_)
          (conv => whnf)
          have hFt : F < (takesF s).length := hfar
          have hc7 := (SlR.g l7 ((h8.trans h9).trans h10)).el hFt
          obtain ⟨k1, k2, k3⟩ := cut_far he hFt
          obtain ⟨m1, m2⟩ := takes_cut hvS hFt
          rw [hF] at k3
          have hno : ¬ ∃ e, e.length = F + 1 ∧ Run (wkF (cutF s (takesF s)[F].to) o) (-1) startF e := fun h => by have := k3.1 h; omega
          have hcps : (cutF s (takesF s)[F].to).ps.length ≤ 1000 := Nat.le_trans (List.length_filter_le _ _) hps1
          repeat' (first | (refine OblP.mk ?_ (W.mk ?_); (first | trivial | omega | (simp only [inR]; omega) | exact Nat.le_of_ble_eq_true (by rfl) | exact SlR.some (by assumption) (by omega)); (conv => whnf)) | (first | (refine RdP.at (by assumption) (by rfl) (W.mk ?_); (conv => whnf)) | (refine RdP.sub (by assumption) (by rfl) (W.mk ?_); (conv => whnf)) | (refine RdP.sub2 (by assumption) (by rfl) (W.mk ?_); (conv => whnf)) | (refine RdP.sub3 (by assumption) (by rfl) (W.mk ?_); (conv => whnf))))
          refine RelP.g (ok2 sitRd intRd fun s _ => s.ps.length ≤ 1000) (x := (s, (takesF s)[F].to)) ⟨_, _, rfl, sitRd.grow hg10 hS0, rfl, hps1⟩ (Grow.refl _) (fun v G11 h11 hq => W.mk ?_)
          have hg11 := hg10.trans h11
          have s11 := hq
          obtain ⟨w11, rfl, a11, n11, c11, rfl, _⟩ := hq
          dsimp only at s11
          generalize hC : cutF s (takesF s)[F].to = C at k1 k2 hno hcps m1 m2 s11
          (conv => whnf)
          repeat' (first | (refine OblP.mk ?_ (W.mk ?_); (first | trivial | omega | (simp only [inR]; omega) | exact Nat.le_of_ble_eq_true (by rfl) | exact SlR.some (by assumption) (by omega)); (conv => whnf)) | (first | (refine RdP.at (by assumption) (by rfl) (W.mk ?_); (conv => whnf)) | (refine RdP.sub (by assumption) (by rfl) (W.mk ?_); (conv => whnf)) | (refine RdP.sub2 (by assumption) (by rfl) (W.mk ?_); (conv => whnf)) | (refine RdP.sub3 (by assumption) (by rfl) (W.mk ?_); (conv => whnf))))
          refine RelP.g (ok1 sitRd fun s => s.ps.length ≤ 1000) (x := C) ⟨_, rfl, s11, hcps⟩ (Grow.refl _) (fun v G12 h12 hq => W.mk ?_); have hg12 := hg11.trans h12; have s12 := hq; obtain ⟨w12, rfl, _⟩ := hq; (conv => whnf)
          refine RelP.g (ok1 offRd fun o => o.crew.length ≤ 1000) (x := o) ⟨_, rfl, offRd.grow hg12 hO0, hcr1⟩ (Grow.refl _) (fun v G13 h13 hq => W.mk ?_); have hg13 := hg12.trans h13; have o13 := hq; obtain ⟨w13, rfl, _⟩ := hq; (conv => whnf)
          refine RelP.g (ok1 (slRd intE) fun l => l.length ≤ 8796093022207) (x := q) ⟨_, rfl, hQ0.grow hg13, (by omega)⟩ (Grow.refl _) (fun v G14 h14 hq => W.mk ?_); have hg14 := hg13.trans h14; have r14 := hq; obtain ⟨a14, n14, c14, rfl, l14, hn14⟩ := hq; (conv => whnf)
          refine ScaP.g (ok3 sitRd offRd (slRd intE) fun s _ _ => Calm s) (x := (C, o, q)) ⟨_, _, _, rfl, sitRd.grow (h13.trans h14) s12, offRd.grow h14 o13, r14, valid_calm m1⟩ (fun v hv => W.mk ?_)
          have hv : v = .bool false := by
            refine hv.trans (congrArg Value.bool ?_)
            show proveF C o q = false
            rw [← Bool.not_eq_true, prove_run]
            rintro ⟨_, q1, q2⟩
            exact hno ⟨q, q1.trans k2, q2⟩
          subst hv
          (conv => whnf)
          refine ForkP.mk (fun h => by cases h) (fun _ => W.mk ?_)
          (conv => whnf)
          refine RelP.g (ok1 sitRd fun s => s.ps.length ≤ 1000) (x := C) ⟨_, rfl, sitRd.grow ((h12.trans h13).trans h14) s11, hcps⟩ (Grow.refl _) (fun v G15 h15 hq => W.mk ?_); have hg15 := hg14.trans h15; have s15 := hq; obtain ⟨w15, rfl, _⟩ := hq; (conv => whnf)
          refine RelP.g (ok1 offRd fun o => o.crew.length ≤ 1000) (x := o) ⟨_, rfl, offRd.grow hg15 hO0, hcr1⟩ (Grow.refl _) (fun v G16 h16 hq => W.mk ?_); have hg16 := hg15.trans h16; have o16 := hq; obtain ⟨w16, rfl, _⟩ := hq; (conv => whnf)
          have hC9 : rotaE C o = 9 := (rotaE_or k1).resolve_left (fun h => by
            obtain ⟨e, q1, q2⟩ := (rota_run k1).1 h
            exact hno ⟨e, q1.trans k2, q2⟩)
          refine RelP.g (ok2 sitRd offRd fun s _ => Calm s) (x := (C, o)) ⟨_, _, rfl, sitRd.grow h16 s15, o16, valid_calm m1⟩ (Grow.refl _) (fun v G17 h17 hq => W.mk ?_)
          have hg17 := hg16.trans h17
          obtain ⟨w17, rfl, hq⟩ := hq
          dsimp only at hq
          dsimp only
          rw [if_neg (by rw [hC9]; decide)] at hq
          rw [hC9]
          subst hq
          (conv => whnf)
          refine IteP.mk (fun _ => W.mk ?_) (fun h => absurd rfl h)
          (conv => whnf)
          refine IteP.mk (fun hF0 => W.mk ?_) (fun hF0 => W.mk ?_) <;> (conv => whnf)
          · (refine ScaP.g okU (G := fun _ => none) (x := ()) rfl (fun v hv => W.mk ?_); subst hv; (conv => whnf); refine ForkP.mk (fun _ => W.mk ?_) (fun h => by cases h); (conv => whnf); exact FinP.mk rfl)
          · have hFt' : F - 1 < (takesF s).length := by omega
            have hc8 : CellsAt G17 (ab a7) (ao a7 + ((F : Int) - 1).toNat * spanE.k) (spanE.f (takesF s)[F - 1]) := by
              rw [show ((F : Int) - 1).toNat = F - 1 by omega]
              exact (SlR.g l7 ((((((((((h8.trans h9).trans h10).trans h11).trans h12).trans h13).trans h14).trans h15).trans h16).trans h17))).el hFt'
            obtain ⟨k1, k2, k3⟩ := cut_far he hFt'
            obtain ⟨m1, m2⟩ := takes_cut hvS hFt'
            rw [hF] at k3
            have hyes := k3.2 (by omega)
            have hcps : (cutF s (takesF s)[F - 1].to).ps.length ≤ 1000 := Nat.le_trans (List.length_filter_le _ _) hps1
            repeat' (first | (refine OblP.mk ?_ (W.mk ?_); (first | trivial | omega | (simp only [inR]; omega) | exact Nat.le_of_ble_eq_true (by rfl) | exact SlR.some (by assumption) (by omega)); (conv => whnf)) | (first | (refine RdP.at (by assumption) (by rfl) (W.mk ?_); (conv => whnf)) | (refine RdP.sub (by assumption) (by rfl) (W.mk ?_); (conv => whnf)) | (refine RdP.sub2 (by assumption) (by rfl) (W.mk ?_); (conv => whnf)) | (refine RdP.sub3 (by assumption) (by rfl) (W.mk ?_); (conv => whnf))))
            refine RelP.g (ok2 sitRd intRd fun s _ => s.ps.length ≤ 1000) (x := (s, (takesF s)[F - 1].to)) ⟨_, _, rfl, sitRd.grow hg17 hS0, rfl, hps1⟩ (Grow.refl _) (fun v G18 h18 hq => W.mk ?_)
            have hg18 := hg17.trans h18
            have s18 := hq
            obtain ⟨w18, rfl, a18, n18, c18, rfl, _⟩ := hq
            dsimp only at s18
            (conv => whnf)
            repeat' (first | (refine OblP.mk ?_ (W.mk ?_); (first | trivial | omega | (simp only [inR]; omega) | exact Nat.le_of_ble_eq_true (by rfl) | exact SlR.some (by assumption) (by omega)); (conv => whnf)) | (first | (refine RdP.at (by assumption) (by rfl) (W.mk ?_); (conv => whnf)) | (refine RdP.sub (by assumption) (by rfl) (W.mk ?_); (conv => whnf)) | (refine RdP.sub2 (by assumption) (by rfl) (W.mk ?_); (conv => whnf)) | (refine RdP.sub3 (by assumption) (by rfl) (W.mk ?_); (conv => whnf))))
            refine RelP.g (ok1 sitRd fun s => s.ps.length ≤ 1000) (x := cutF s (takesF s)[F - 1].to) ⟨_, rfl, s18, hcps⟩ (Grow.refl _) (fun v G19 h19 hq => W.mk ?_); have hg19 := hg18.trans h19; have s19 := hq; obtain ⟨w19, rfl, _⟩ := hq; (conv => whnf)
            refine RelP.g (ok1 offRd fun o => o.crew.length ≤ 1000) (x := o) ⟨_, rfl, offRd.grow hg19 hO0, hcr1⟩ (Grow.refl _) (fun v G20 h20 hq => W.mk ?_); have hg20 := hg19.trans h20; have o20 := hq; obtain ⟨w20, rfl, _⟩ := hq; (conv => whnf)
            have hC0 : rotaE (cutF s (takesF s)[F - 1].to) o = 0 := (rota_run k1).2 (by obtain ⟨e, q1, q2⟩ := hyes; exact ⟨e, q1.trans k2.symm, q2⟩)
            refine RelP.g (ok2 sitRd offRd fun s _ => Calm s) (x := (cutF s (takesF s)[F - 1].to, o)) ⟨_, _, rfl, sitRd.grow h20 s19, o20, valid_calm m1⟩ (Grow.refl _) (fun v G21 h21 hq => W.mk ?_)
            obtain ⟨w21, rfl, hq⟩ := hq
            dsimp only at hq
            dsimp only
            rw [if_pos hC0] at hq
            rw [hC0]
            obtain ⟨a21, n21, c21, rfl, _⟩ := hq
            (conv => whnf)
            refine IteP.mk (fun _ => W.mk ?_) (fun h => absurd rfl h)
            (conv => whnf)
            (refine ScaP.g okU (G := fun _ => none) (x := ()) rfl (fun v hv => W.mk ?_); subst hv; (conv => whnf); refine ForkP.mk (fun _ => W.mk ?_) (fun h => by cases h); (conv => whnf); exact FinP.mk rfl)
end Go.Proofs.Ytcmhpndhloplpaa
