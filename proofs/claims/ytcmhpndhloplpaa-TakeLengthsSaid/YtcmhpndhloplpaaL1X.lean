/- The first law: the lengths. Plain. -/
import Derived.Test.YtcmhpndhloplpaaL1W
namespace Go.Proofs.Ytcmhpndhloplpaa
open Go.Pal

theorem stretch_ends {len : Int} : ∀ {l : List Span} {fr : Int}, ∀ q ∈ stretchesF len fr l, (q.fr = fr ∨ ∃ p ∈ l, p.to = q.fr) ∧ (q.to = len ∨ ∃ p ∈ l, p.fr = q.to)
  | [], fr, q, hq => by
    simp only [stretchesF] at hq
    split at hq
    · simp only [List.mem_singleton] at hq
      subst hq; exact ⟨.inl rfl, .inl rfl⟩
    · cases hq
  | p :: r, fr, q, hq => by
    simp only [stretchesF] at hq
    rcases List.mem_append.1 hq with hq | hq
    · split at hq
      · simp only [List.mem_singleton] at hq
        subst hq; exact ⟨.inl rfl, .inr ⟨p, by simp, rfl⟩⟩
      · cases hq
    · obtain ⟨h1, h2⟩ := stretch_ends q hq
      refine ⟨?_, ?_⟩
      · rcases h1 with h1 | ⟨p', hp, e⟩
        · exact .inr ⟨p, by simp, h1.symm⟩
        · exact .inr ⟨p', by simp [hp], e⟩
      · rcases h2 with h2 | ⟨p', hp, e⟩
        · exact .inl h2
        · exact .inr ⟨p', by simp [hp], e⟩
def LenOk (s : Sit) (p : Span) : Prop := 1 ≤ p.to - p.fr ∧ p.to - p.fr < s.long + s.short ∧ (s.short ≤ p.to - p.fr ∨ ((p.fr = 0 ∨ pausedF s (p.fr - 1) = true) ∧ (p.to = s.len ∨ pausedF s p.to = true)))
theorem base_len {a long : Int} : ∀ {m : Nat}, ∀ q ∈ baseF a long m, q.to - q.fr = long
  | 0, q, hq => by simp [baseF] at hq
  | m + 1, q, hq => by
    rw [baseF_succ] at hq
    rcases List.mem_append.1 hq with hq | hq
    · exact base_len (m := m) q hq
    · simp only [List.mem_singleton] at hq
      subst hq
      have e' : ((m : Int) + 1) * long = m * long + long := by rw [Int.add_mul]; omega
      simp only
      rw [e']; omega
theorem lengths_law {s : Sit} (h : validF s = true) : ∀ p ∈ takesF s, LenOk s p := by
  intro p hp
  obtain ⟨h1, h2, h3, h4⟩ := validF_iff.1 h
  obtain ⟨c1, c2⟩ := stretches_chain (fr := 0) h1 (Int.le_refl _) (by omega)
  obtain ⟨q, hq, hp⟩ := List.mem_flatMap.1 hp
  have k1 := chain_mem c1 q hq
  obtain ⟨s1, s2⟩ := stretch_ends q hq
  have hsp := spansOk_mem h1
  have hfr : q.fr = 0 ∨ pausedF s (q.fr - 1) = true := by
    rcases s1 with s1 | ⟨t, ht, e⟩
    · exact .inl s1
    · right
      have := hsp t ht
      simp only [pausedF, List.any_eq_true]
      exact ⟨t, ht, by simp only [inF, decide_eq_true_eq]; omega⟩
  have hto : q.to = s.len ∨ pausedF s q.to = true := by
    rcases s2 with s2 | ⟨t, ht, e⟩
    · exact .inl s2
    · right
      have := hsp t ht
      simp only [pausedF, List.any_eq_true]
      exact ⟨t, ht, by simp only [inF, decide_eq_true_eq]; omega⟩
  have hd : 0 ≤ (q.to - q.fr) / s.long := Int.ediv_nonneg (by omega) (by omega)
  have hmul : ((q.to - q.fr) / s.long).toNat * s.long ≤ q.to - q.fr := by
    have := Int.ediv_mul_le (q.to - q.fr) (show s.long ≠ 0 by omega)
    rwa [Int.toNat_of_nonneg hd]
  have hlt : q.to - q.fr < ((q.to - q.fr) / s.long).toNat * s.long + s.long := by
    have := Int.lt_ediv_add_one_mul_self (q.to - q.fr) (show 0 < s.long by omega)
    rw [Int.add_mul] at this
    rw [Int.toNat_of_nonneg hd]; omega
  simp only [cutS] at hp
  generalize ((q.to - q.fr) / s.long).toNat = m at hp hmul hlt
  have base : ∀ {k : Nat}, p ∈ baseF q.fr s.long k → LenOk s p := fun hb => by
    have := base_len p hb
    exact ⟨by omega, by omega, .inl (by omega)⟩
  split at hp
  · exact base hp
  · split at hp
    · rename_i hne hor
      rcases List.mem_append.1 hp with hp | hp
      · exact base hp
      · simp only [List.mem_singleton] at hp
        subst hp
        refine ⟨by simp only; omega, by simp only; omega, ?_⟩
        rcases hor with hor | hor
        · left; simp only; omega
        · right
          subst hor
          simp only [Int.natCast_zero, Int.zero_mul, Int.add_zero]
          exact ⟨hfr, hto⟩
    · rename_i hne hor
      rcases List.mem_append.1 hp with hp | hp
      · exact base hp
      · simp only [List.mem_singleton] at hp
        subst hp
        have hm : m ≠ 0 := fun e => hor (.inr e)
        have e1 : ((m - 1 : Nat) : Int) * s.long = m * s.long - s.long := by
          have : ((m - 1 : Nat) : Int) = m - 1 := by omega
          rw [this, Int.sub_mul]; omega
        have hor' : ¬ s.short ≤ q.to - (q.fr + m * s.long) := fun e => hor (.inl e)
        refine ⟨?_, ?_, .inl ?_⟩ <;> simp only <;> rw [e1] <;> omega
end Go.Proofs.Ytcmhpndhloplpaa
