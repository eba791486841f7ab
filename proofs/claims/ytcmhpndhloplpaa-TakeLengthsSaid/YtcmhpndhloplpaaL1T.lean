/- The rota. -/
import Derived.Test.YtcmhpndhloplpaaL1S
namespace Go.Proofs.Ytcmhpndhloplpaa
open Go.Pal

set_option maxRecDepth 100000

theorem base_bd {a long : Int} (h0 : 1 ≤ long) : ∀ {m : Nat}, ∀ q ∈ baseF a long m, a ≤ q.fr ∧ q.fr ≤ q.to ∧ q.to ≤ a + m * long
  | 0, q, hq => by simp [baseF] at hq
  | m + 1, q, hq => by
    rw [baseF_succ] at hq
    have e : ((m + 1 : Nat) : Int) * long = m * long + long := by rw [Int.natCast_add, Int.add_mul]; omega
    have e' : ((m : Int) + 1) * long = m * long + long := by rw [Int.add_mul]; omega
    have hp : 0 ≤ (m : Int) * long := Int.mul_nonneg (by omega) (by omega)
    rcases List.mem_append.1 hq with hq | hq
    · have := base_bd h0 (m := m) q hq
      rw [e]; omega
    · simp only [List.mem_singleton] at hq
      subst hq
      simp only
      rw [e, e']; omega
theorem cut_bd {long short : Int} {p : Span} (h0 : 1 ≤ long) (hp : p.fr ≤ p.to) : ∀ q ∈ cutS long short p, p.fr ≤ q.fr ∧ q.fr ≤ q.to ∧ q.to ≤ p.to := by
  intro q hq
  have hd : 0 ≤ (p.to - p.fr) / long := Int.ediv_nonneg (by omega) (by omega)
  have hmul : ((p.to - p.fr) / long).toNat * long ≤ p.to - p.fr := by
    have := Int.ediv_mul_le (p.to - p.fr) (show long ≠ 0 by omega)
    rwa [Int.toNat_of_nonneg hd]
  have hn : 0 ≤ (((p.to - p.fr) / long).toNat : Int) * long := Int.mul_nonneg (by omega) (by omega)
  simp only [cutS] at hq
  generalize ((p.to - p.fr) / long).toNat = m at hq hmul hn
  have hb : ∀ k : Nat, k ≤ m → (0 ≤ (k : Int) * long ∧ (k : Int) * long ≤ m * long) ∧ ∀ q ∈ baseF p.fr long k, p.fr ≤ q.fr ∧ q.fr ≤ q.to ∧ q.to ≤ p.to := fun k hk => by
    have h1 : (k : Int) * long ≤ m * long := Int.mul_le_mul_of_nonneg_right (by omega) (by omega)
    have h2 : 0 ≤ (k : Int) * long := Int.mul_nonneg (by omega) (by omega)
    refine ⟨⟨h2, h1⟩, fun q hq => ?_⟩
    have := base_bd h0 q hq
    omega
  split at hq
  · exact (hb m (Nat.le_refl _)).2 q hq
  · split at hq
    · rcases List.mem_append.1 hq with hq | hq
      · exact (hb m (Nat.le_refl _)).2 q hq
      · simp only [List.mem_singleton] at hq
        subst hq
        simp only; omega
    · rcases List.mem_append.1 hq with hq | hq
      · exact (hb (m - 1) (by omega)).2 q hq
      · simp only [List.mem_singleton] at hq
        subst hq
        have := (hb (m - 1) (by omega)).1
        simp only; omega
theorem chain_mem : ∀ {l : List Span} {lo : Int}, chain lo l → ∀ p ∈ l, lo ≤ p.fr ∧ p.fr < p.to := fun {l lo} h p hp => by
  obtain ⟨i, hi, e⟩ := List.getElem_of_mem hp
  have := chain_drop i hi h
  rw [← e]; exact ⟨this.1, this.2.1⟩
theorem takes_bd {s : Sit} (h : validF s = true) : ∀ q ∈ takesF s, 0 ≤ q.fr ∧ q.fr ≤ q.to ∧ q.to ≤ s.len := by
  intro q hq
  obtain ⟨h1, h2, h3, h4⟩ := validF_iff.1 h
  obtain ⟨c1, c2⟩ := stretches_chain (fr := 0) h1 (Int.le_refl _) (by omega)
  obtain ⟨p, hp, hq⟩ := List.mem_flatMap.1 hq
  have k1 := chain_mem c1 p hp
  have k2 := c2 p hp
  have := cut_bd (by omega) (by omega) q hq
  omega
theorem err0 {s : Sit} {o : Off} (h : errW s o = 0) : validF s = true ∧ (takesF s).length ≤ 40 ∧ validO o = true := by
  unfold errW at h
  split at h
  · rename_i hf
    split at h
    · rename_i hv
      unfold faultF at hf
      split at hf
      · rename_i hv2
        split at hf
        · cases hf
        · exact ⟨hv2, by omega, hv⟩
      · cases hf
    · cases h
  · rename_i hf; exact absurd h hf
theorem fine0 {s : Sit} {o : Off} (h : errW s o = 0) : Fine (wkF s o) ∧ (1 ≤ o.crew.length ∧ o.crew.length ≤ 5) ∧ (takesF s).length ≤ 40 := by
  obtain ⟨h1, h2, h3⟩ := err0 h
  obtain ⟨_, h4, _⟩ := validF_iff.1 h1
  simp only [validO, Bool.and_eq_true, inF, decide_eq_true_eq, List.all_eq_true] at h3
  obtain ⟨k1, k2, k3, k4⟩ := h3
  refine ⟨⟨fun p hp => ?_, fun p hp => ?_, ?_, ?_⟩, by omega, h2⟩
  · have := takes_bd h1 p hp
    simp only [Little]; omega
  · have := k2 p hp
    simp only [fineR, inF, Bool.and_eq_true, decide_eq_true_eq] at this
    simp only [Little]; omega
  · show Little o.due; simp only [Little]; omega
  · show Little o.delay; simp only [Little]; omega

def rotaE (s : Sit) (o : Off) : Int := if errW s o = 0 then (if farthestF (wkF s o) [] (-1) < (takesF s).length then 9 else 0) else errW s o
def rotaF (s : Sit) (o : Off) : List Int := restF (wkF s o) [] (-1)
def RotaR (G : Hp) (v : Value) (s : Sit) (o : Off) : Prop := ∃ w, v = .tuple #[w, I (rotaE s o)] ∧ (if rotaE s o = 0 then SlV intE G w (rotaF s o) else w = .slice none 0 0)
theorem RotaR.grow {G G' : Hp} {v : Value} {s : Sit} {o : Off} (hg : Grow G G') (h : RotaR G v s o) : RotaR G' v s o := by
  obtain ⟨w, h1, h2⟩ := h
  refine ⟨w, h1, ?_⟩
  split at h2
  · rename_i he; rw [if_pos he]; exact SlV.grow hg h2
  · rename_i he; rw [if_neg he]; exact h2
def tabT : Tab Try.prog := Tab.cons 43 _ work43 body43 tabS
theorem rota17 : Sound Try.prog 17 id (grel (args2 sitRd offRd fun s _ => Calm s) fun x v G => RotaR G v x.1 x.2) := by
  refine comp17.grel tabT (ok2 _ _ _) (fun args G s h => ?_) (fun x v G G' hg h => RotaR.grow hg h) (fun args G x h => ?_)
  · obtain ⟨v, w, rfl, _⟩ := h; simp
  · obtain ⟨s, o⟩ := x
    obtain ⟨u, v, rfl, ⟨w1, rfl, a, n, c, rfl, hl, hn⟩, ⟨w2, rfl, a2, n2, c2, rfl, hl2, hn2⟩, hcalm⟩ := h
    simp only at hl hl2 hcalm
    dsimp only
    (conv => whnf)
    refine RelP.g (ok2 sitRd offRd fun s _ => Calm s) (x := (s, o)) ⟨_, _, rfl, ⟨_, rfl, a, n, c, rfl, hl, hn⟩, ⟨_, rfl, a2, n2, c2, rfl, hl2, hn2⟩, hcalm⟩ (Grow.refl _) (fun v G1 hg1 hq => W.mk ?_)
    obtain ⟨w, rfl, hq⟩ := hq
    simp only at hq
    dsimp only
    split at hq
    · rename_i he
      obtain ⟨hf, hc, ht⟩ := fine0 he
      have hq0 := hq
      obtain ⟨b, v1, v2, v3, rfl, cw, _, _, ⟨a3, n3, c3, rfl, l3, hn3⟩⟩ := hq
      have e3 := l3.len
      have e3 : (takesF s).length = n3 := e3
      (conv => whnf)
      refine IteP.mk (fun h => W.mk ?_) (fun h => absurd he h)
      (conv => whnf)
      refine RelP.g (ok3 workRd (slRd intE) intRd fun x l _ => Fine x ∧ x.o.crew.length ≤ 5 ∧ x.t.length ≤ 1000000 ∧ l.length ≤ x.t.length ∧ ∀ j ∈ l, 0 ≤ j ∧ j < 5) (x := (wkF s o, [], -1)) ⟨_, _, _, rfl, hq0, SlV.nil, rfl, hf, hc.2, by show (takesF s).length ≤ _; omega, Nat.zero_le _, fun j hj => by cases hj⟩ (Grow.refl _) (fun v G2 hg2 hq2 => W.mk ?_)
      obtain ⟨w4, rfl, a4, n4, c4, rfl, l4, hn4⟩ := hq2
      dsimp only
      have cw2 := cw.grow hg2
      (conv => whnf)
      repeat' (first | (refine OblP.mk ?_ (W.mk ?_); (first | trivial | omega | (simp only [inR]; omega) | exact Nat.le_of_ble_eq_true (by rfl) | exact SlR.some (by assumption) (by omega)); (conv => whnf)) | (first | (refine RdP.at (by assumption) (by rfl) (W.mk ?_); (conv => whnf)) | (refine RdP.sub (by assumption) (by rfl) (W.mk ?_); (conv => whnf)) | (refine RdP.sub2 (by assumption) (by rfl) (W.mk ?_); (conv => whnf)) | (refine RdP.sub3 (by assumption) (by rfl) (W.mk ?_); (conv => whnf))))
      refine IteP.mk (fun hlt => W.mk ?_) (fun hlt => W.mk ?_) <;> (conv => whnf) <;> refine FinP.mk ?_
      · have e0 : rotaE s o = 9 := by rw [rotaE, if_pos he, if_pos (by omega)]
        refine ⟨_, by rw [e0]; rfl, ?_⟩
        rw [if_neg (by rw [e0]; decide)]
      · have e0 : rotaE s o = 0 := by rw [rotaE, if_pos he, if_neg (by omega)]
        refine ⟨_, by rw [e0]; rfl, ?_⟩
        rw [if_pos e0]
        exact ⟨a4, n4, c4, rfl, l4, hn4⟩
    · rename_i he
      subst hq
      (conv => whnf)
      refine IteP.mk (fun h => absurd h he) (fun h => W.mk ?_)
      (conv => whnf)
      refine FinP.mk ?_
      have e0 : rotaE s o = errW s o := by rw [rotaE, if_neg he]
      refine ⟨_, by rw [e0]; rfl, ?_⟩
      rw [if_neg (by rw [e0]; exact he)]
end Go.Proofs.Ytcmhpndhloplpaa
