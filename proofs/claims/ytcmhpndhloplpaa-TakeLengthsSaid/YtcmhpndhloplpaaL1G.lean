/- The program's sittings: takes. -/
import Derived.Test.YtcmhpndhloplpaaL1F
namespace Go.Proofs.Ytcmhpndhloplpaa
open Go.Pal

set_option maxRecDepth 100000

theorem SitC.grow {G G' : Hp} {b : Nat} {s : Sit} (hg : Grow G G') (h : SitC G b s) : SitC G' b s := let ⟨w, h1, h2⟩ := h; ⟨w, h1.grow hg, h2.grow hg⟩
def StrV (G : Hp) (v : Value) (s : Sit) : Prop := ∃ b, v = .func (.func 69) #[] #[.pointer (some ⟨b, 0, none⟩)] ∧ SitC G b s
theorem str64 : Sound Try.prog 64 id (grel (args1 sitRd fun _ => True) fun s v G => StrV G v s) := by
  refine comp64.grel tabE (ok1 _ _) (fun args G s h => ?_) (fun x v G G' hg ⟨b, h1, h2⟩ => ⟨b, h1, h2.grow hg⟩) (fun args G s h => ?_)
  · obtain ⟨v, rfl, _⟩ := h; simp
  · obtain ⟨v, rfl, ⟨w, rfl, a, n, c, rfl, hl, hn⟩, hv⟩ := h
    (conv => whnf)
    refine NameP.mk (fun b => W.mk ?_)
    (conv => whnf)
    refine PubAnyP.mk ⟨[0], ?_⟩
    (conv => whnf)
    intro G' hg _ hc
    refine W.mk ?_
    (conv => whnf)
    refine FinP.mk ⟨b, rfl, _, hc, a, n, c, rfl, SlR.grow (G := G) (G' := G') (fun _ _ h => h) hl hg, hn⟩

def tabF : Tab Try.prog := Tab.cons 64 _ str64 body64 (Tab.cons 61 _ long61 body61 tabE)

theorem takes52 : Sound Try.prog 52 id (grel (args1 sitRd fun s => validF s = true) fun s v G => SlV spanE G v (takesF s)) := by
  refine comp52.grel tabF (ok1 _ _) (fun args G s h => ?_) (fun x v G G' hg h => h.grow hg) (fun args G s h => ?_)
  · obtain ⟨v, rfl, _⟩ := h; simp
  · obtain ⟨v, rfl, ⟨w, rfl, a0, n0, c0, rfl, hl0, hn0⟩, hv⟩ := h
    obtain ⟨hv1, hv2, hv3, hv4⟩ := validF_iff.1 hv
    (conv => whnf)
    refine RelP.g (ok1 sitRd fun _ => True) (x := s) ⟨_, rfl, ⟨_, rfl, a0, n0, c0, rfl, hl0, hn0⟩, trivial⟩ (Grow.refl _) (fun v G1 hg1 hq => W.mk ?_)
    obtain ⟨b, rfl, hsc⟩ := hq
    obtain ⟨hch, hto⟩ := stretches_chain (fr := 0) hv1 (by omega) (by omega)
    have hT : takesF s = (stretchesF s.len 0 s.ps).flatMap (cutS s.long s.short) := rfl
    (conv => whnf)
    refine RangeP.of ((stretchesF s.len 0 s.ps).map spanV) { α := Nat × List Span × Nat × List Value, fr := [(1, .c (.ptr 0 0)), (2, .c (.ptr 1 0))], k := fun x => x.1, H := fun x => [(0, .cells .anon [.val (I s.len), .val (.slice a0 n0 c0), .val (I s.long), .val (I s.short)] 32), (1, .cells .anon [.row 2 x.2.2.1] 27), (2, .row none x.2.2.1 x.2.2.2 35 2)], ok := fun x _ => (x.2.1.length : Int) ≤ 36000 ∧ (∀ h : x.1 < (stretchesF s.len 0 s.ps).length, (x.2.1.length : Int) ≤ (stretchesF s.len 0 s.ps)[x.1].fr) ∧ Row spanE x.2.1 x.2.2.1 x.2.2.2 ∧ x.2.1 ++ ((stretchesF s.len 0 s.ps).drop x.1).flatMap (cutS s.long s.short) = takesF s }
      (0, [], 0, []) (SoundFn.of body69 (str69 b s)) (fun l => ⟨rfl, hsc, hv, rfl⟩) (fun y hy => by obtain ⟨p, _, rfl⟩ := List.mem_map.1 hy; rfl) rfl (HeadP.of [(2, none)] ⟨rfl, rfl, trivial⟩ ⟨rfl, rfl, rfl, trivial⟩) ⟨by simp, fun h => by have := (chain_drop 0 h hch).1; simpa using this, Row.nil, by simp [hT]⟩ ⟨rfl, fun _ => rfl⟩ (fun _ _ _ _ h => h)
      (fun x y G2 hg2 hx hy => W.mk ?_) (fun x G2 hg2 hx hk => W.mk ?_)
    · obtain ⟨i, out, m, vs⟩ := x
      obtain ⟨ho, hfr, hr, hx⟩ := hx
      simp only at ho hfr hx hr hy
      rw [List.getElem?_map] at hy
      obtain ⟨p, hp, rfl⟩ := Option.map_eq_some_iff.1 hy
      generalize stretchesF s.len 0 s.ps = L at hch hto hT ho hfr hx hp
      have hlt : i < L.length := (List.getElem?_eq_some_iff.1 hp).1
      have hpe : L[i] = p := (List.getElem?_eq_some_iff.1 hp).2
      obtain ⟨q1, q2, q3⟩ := chain_drop i hlt hch
      have q4 := hto _ (List.getElem_mem hlt)
      have hfr := hfr hlt
      rw [List.drop_eq_getElem_cons hlt, List.flatMap_cons] at hx
      have hnext : ∀ h : i + 1 < L.length, L[i].to ≤ L[i + 1].fr := fun h => by
        have := (chain_drop 0 (by simp; omega) q3).1
        simpa using this
      rw [hpe] at q1 q2 q3 q4 hfr hx hnext
      clear hpe
      dsimp only [spanV]
      (conv => whnf)
      refine OblP.mk ⟨_, _, rfl, by simp only [inR]; omega⟩ (W.mk ?_); (conv => whnf)
      obtain ⟨K, hK⟩ : ∃ K : Nat, (p.to - p.fr) / s.long = K := ⟨((p.to - p.fr) / s.long).toNat, by have := Int.ediv_nonneg (show 0 ≤ p.to - p.fr by omega) (show 0 ≤ s.long by omega); omega⟩
      have hK1 : (K : Int) * s.long ≤ p.to - p.fr := by have := Int.ediv_mul_le (p.to - p.fr) (show s.long ≠ 0 by omega); rw [hK] at this; exact this
      have hK2 : p.to - p.fr < K * s.long + s.long := by have := Int.lt_ediv_add_one_mul_self (p.to - p.fr) (show 0 < s.long by omega); rw [hK, Int.add_mul, Int.one_mul] at this; exact this
      have hcut : cutS s.long s.short p = if p.fr + K * s.long = p.to then baseF p.fr s.long K else if s.short ≤ p.to - (p.fr + K * s.long) ∨ K = 0 then baseF p.fr s.long K ++ [⟨p.fr + K * s.long, p.to⟩] else baseF p.fr s.long (K - 1) ++ [⟨p.fr + (K - 1 : Nat) * s.long, p.to⟩] := by
        simp only [cutS, hK, Int.toNat_natCast]
      have hKl : ∀ j : Nat, j ≤ K → (j : Int) * s.long ≤ K * s.long ∧ (j : Int) ≤ j * s.long := fun j hj => ⟨Int.mul_le_mul_of_nonneg_right (by omega) (by omega), by have := Int.mul_le_mul_of_nonneg_left (show (1 : Int) ≤ s.long by omega) (show (0 : Int) ≤ j by omega); omega⟩
      have hKK := hKl K (Nat.le_refl _)
      have key : ∀ ts, cutS s.long s.short p = ts → (ts.length : Int) ≤ p.to - p.fr → ((out ++ ts).length : Int) ≤ 36000 ∧ (∀ h : i + 1 < L.length, ((out ++ ts).length : Int) ≤ L[i + 1].fr) ∧ (out ++ ts) ++ (L.drop (i + 1)).flatMap (cutS s.long s.short) = takesF s := fun ts h1 h2 => by
        simp only [List.length_append]
        refine ⟨by omega, fun h => by have := hnext h; omega, ?_⟩
        rw [← hx, h1, List.append_assoc]
      have hb : ∀ j, (baseF p.fr s.long j).length = j := fun j => by simp [baseF]
      have hrn := hr.n
      repeat' (first | (refine OblP.mk ?_ (W.mk ?_); (first | trivial | omega | (simp only [inR]; omega) | exact Nat.le_of_ble_eq_true (by rfl) | exact SlR.some (by assumption) (by omega)); (conv => whnf)) | (refine RdP.at (by assumption) (by rfl) (W.mk ?_); (conv => whnf)) | (refine RdP.sub (by assumption) (by rfl) (W.mk ?_); (conv => whnf)) | (refine RdP.sub2 (by assumption) (by rfl) (W.mk ?_); (conv => whnf)) | (refine RdP.sub3 (by assumption) (by rfl) (W.mk ?_); (conv => whnf)) | (refine FinP.mk ?_))
      rw [hK]
      refine LoopP.of { α := Nat × Nat × List Value, fr := fun x => [(1, .c (.ptr 0 0)), (2, .c (.ptr 1 0)), (3, .c (.ptr 4 0)), (4, .v (I K)), (15, .v (I K)), (16, .v (I x.1))], H := fun x => [(0, .cells .anon [.val (I s.len), .val (.slice a0 n0 c0), .val (I s.long), .val (I s.short)] 32), (1, .cells .anon [.row 2 x.2.1] 27), (2, .row none x.2.1 x.2.2 35 2), (4, .cells .anon [.val (I p.fr), .val (I p.to)] 35)], ok := fun x _ => x.1 ≤ K ∧ Row spanE (out ++ baseF p.fr s.long x.1) x.2.1 x.2.2, m := fun x => K - x.1 }
        (0, m, vs) (HeadP.of [] ⟨rfl, rfl, rfl, rfl, rfl, rfl, trivial⟩ ⟨rfl, rfl, rfl, rfl, trivial⟩) ⟨Nat.zero_le _, by simpa [baseF] using hr⟩ (fun _ => ⟨rfl, rfl⟩) (fun x G3 hg3 hx2 => W.mk ?_)
      obtain ⟨k, m2, vs2⟩ := x
      obtain ⟨hk, hr2⟩ := hx2
      simp only at hk hr2
      have hm2 := hr2.n
      simp only [List.length_append, hb] at hm2
      have hkl := hKl k hk
      have hkm : ((k : Int) + 1) * s.long = k * s.long + s.long := by rw [Int.add_mul, Int.one_mul]
      dsimp only
      (conv => whnf)
      refine IteP.mk (fun hlt2 => W.mk ?_) (fun hge2 => W.mk ?_) <;> (conv => whnf)
      · have hkl1 := hKl (k + 1) (by omega)
        simp only [Int.natCast_add, Int.cast_ofNat_Int, hkm] at hkl1
        repeat' (first | (refine OblP.mk ?_ (W.mk ?_); (first | trivial | omega | (simp only [inR]; omega) | exact Nat.le_of_ble_eq_true (by rfl) | exact SlR.some (by assumption) (by omega)); (conv => whnf)) | (refine OblP.mk (by simp only [inR]; rw [hkm]; omega) (W.mk ?_); (conv => whnf)))
        refine RoundP.of (k + 1, m2 + 1, vs2 ++ [I (p.fr + k * s.long), I (p.fr + (k + 1) * s.long)]) (HeadP.of [(2, some 35)] ⟨rfl, rfl, rfl, rfl, rfl, rfl, trivial⟩ ⟨rfl, rfl, rfl, rfl, trivial⟩) ⟨by simp only; omega, ?_⟩ (by simp only; omega)
        simp only [baseF_succ, ← List.append_assoc]
        exact hr2.snoc _
      · have : k = K := by omega
        subst this
        have hl2 : vs2.length = m2 * 2 := hr2.len
        repeat' (first | (refine IteP.mk (fun _ => W.mk ?_) (fun _ => W.mk ?_) <;> (conv => whnf)) | (refine OblP.mk ?_ (W.mk ?_); (show _ ≤ vs2.length; omega); (conv => whnf)) | (refine OblP.mk ⟨_, _, rfl, by simp only [inR]; omega⟩ (W.mk ?_); (conv => whnf)) | (refine OblP.mk ?_ (W.mk ?_); (first | trivial | omega | (simp only [inR]; omega) | exact Nat.le_of_ble_eq_true (by rfl) | exact SlR.some (by assumption) (by omega)); (conv => whnf)) | (first | (refine RdP.at (by assumption) (by rfl) (W.mk ?_); (conv => whnf)) | (refine RdP.sub (by assumption) (by rfl) (W.mk ?_); (conv => whnf)) | (refine RdP.sub2 (by assumption) (by rfl) (W.mk ?_); (conv => whnf)) | (refine RdP.sub3 (by assumption) (by rfl) (W.mk ?_); (conv => whnf))))
        all_goals try (exfalso; omega)
        · obtain ⟨k1, k2, k3⟩ := key _ (hcut.trans (if_pos (by omega))) (by simp only [hb]; omega)
          exact RoundR.of (i + 1, _, m2, vs2) [] ⟨rfl, rfl, rfl, trivial⟩ ⟨k1, k2, hr2, k3⟩ rfl
        · obtain ⟨k1, k2, k3⟩ := key _ (hcut.trans ((if_neg (by omega)).trans (if_pos (.inl (by omega))))) (by simp only [List.length_append, hb, List.length_singleton]; omega)
          refine RoundR.of (i + 1, _, m2 + 1, vs2 ++ [I (p.fr + k * s.long), I p.to]) [(2, some 68)] ⟨rfl, rfl, rfl, trivial⟩ ⟨k1, k2, ?_, k3⟩ rfl
          simp only [← List.append_assoc]
          exact hr2.snoc _
        · obtain ⟨k1, k2, k3⟩ := key _ (hcut.trans ((if_neg (by omega)).trans (if_pos (.inr (by omega))))) (by simp only [List.length_append, hb, List.length_singleton]; omega)
          refine RoundR.of (i + 1, _, m2 + 1, vs2 ++ [I (p.fr + k * s.long), I p.to]) [(2, some 68)] ⟨rfl, rfl, rfl, trivial⟩ ⟨k1, k2, ?_, k3⟩ rfl
          simp only [← List.append_assoc]
          exact hr2.snoc _
        · obtain ⟨k', rfl⟩ : ∃ k', k = k' + 1 := ⟨k - 1, by omega⟩
          obtain ⟨k1, k2, k3⟩ := key _ (hcut.trans ((if_neg (by omega)).trans (if_neg (by omega)))) (by simp only [List.length_append, hb, List.length_singleton]; omega)
          refine RoundR.of (i + 1, _, m2, vs2.take (((m2 : Int) - 1).toNat * 2 + 1) ++ [I p.to] ++ vs2.drop (((m2 : Int) - 1).toNat * 2 + 1 + 1)) [] ⟨rfl, rfl, rfl, trivial⟩ ⟨k1, k2, ?_, k3⟩ rfl
          rw [baseF_succ, ← List.append_assoc] at hr2
          have := row_setTo (b := p.to) hr2 rfl
          rw [show ((m2 : Int) - 1).toNat = m2 - 1 by omega]
          simp only [Nat.add_sub_cancel, ← List.append_assoc]
          exact this
    · obtain ⟨i, out, m, vs⟩ := x
      obtain ⟨ho, hfr, hr, hx⟩ := hx
      simp only at ho hr hx hk
      have hm := hr.n
      rw [hk, List.length_map, List.drop_length, List.flatMap_nil, List.append_nil] at hx
      dsimp only
      (conv => whnf)
      refine PubP.mk (fun a1 c1 G3 hg3 hp => W.mk ?_)
      (conv => whnf)
      refine FinP.mk ?_
      rw [← hx]
      exact hr.pub hp (by omega)
end Go.Proofs.Ytcmhpndhloplpaa
