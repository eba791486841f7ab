/- The reference's takes. -/
import Derived.Test.YtcmhpndhloplpaaL1C
namespace Go.Proofs.Ytcmhpndhloplpaa
open Go.Pal

set_option maxRecDepth 100000

def tabC : Tab Try.prog := Tab.cons 50 _ stretches50 body50 (Tab.cons 32 _ valid32 body32 (Tab.cons 14 _ paused14 body14 tabA))

/-- Spans one behind the other. -/
def chain : Int → List Span → Prop
  | _, [] => True
  | lo, p :: r => lo ≤ p.fr ∧ p.fr < p.to ∧ chain p.to r
theorem chain_drop : ∀ {l : List Span} {lo : Int} (i : Nat) (h : i < l.length), chain lo l → lo ≤ l[i].fr ∧ l[i].fr < l[i].to ∧ chain l[i].to (l.drop (i + 1))
  | p :: r, lo, 0, _, hc => by simpa [chain] using hc
  | p :: r, lo, i + 1, h, hc => by
    obtain ⟨h1, h2, h3⟩ := hc
    have := chain_drop i (by simpa using h) h3
    simp only [List.getElem_cons_succ, List.drop_succ_cons]
    exact ⟨by omega, this.2⟩
theorem stretches_chain {len : Int} : ∀ {l : List Span} {last fr : Int}, spansOk len last l = true → 0 ≤ fr → fr ≤ last + 1 → chain fr (stretchesF len fr l) ∧ ∀ p ∈ stretchesF len fr l, p.to ≤ len
  | [], last, fr, _, h0, h1 => by
    simp only [stretchesF]
    split
    · simp [chain]; omega
    · simp [chain]
  | p :: r, last, fr, h, h0, h1 => by
    simp only [spansOk, Bool.and_eq_true, goodSpan_iff] at h
    obtain ⟨i1, i2⟩ := stretches_chain (len := len) (fr := p.to) h.2 (by omega) (by omega)
    simp only [stretchesF]
    have low : ∀ {l : List Span} {a b : Int}, a ≤ b → chain b l → chain a l := fun {l a b} hab hc => by
      cases l with
      | nil => trivial
      | cons q s => exact ⟨by have := hc.1; omega, hc.2⟩
    split
    · refine ⟨⟨by simp, by simp; omega, low (by simp; omega) i1⟩, fun q hq => ?_⟩
      rcases List.mem_cons.1 hq with rfl | hq
      · simp; omega
      · exact i2 q hq
    · exact ⟨low (by omega) i1, i2⟩

def baseF (a long : Int) (m : Nat) : List Span := (List.range m).map fun j : Nat => ⟨a + j * long, a + (j + 1) * long⟩
theorem baseF_succ (a long : Int) (m : Nat) : baseF a long (m + 1) = baseF a long m ++ [⟨a + m * long, a + (m + 1) * long⟩] := by
  simp [baseF, List.range_succ]
def cutS (long short : Int) (p : Span) : List Span :=
  let m := ((p.to - p.fr) / long).toNat
  if p.fr + m * long = p.to then baseF p.fr long m
  else if short ≤ p.to - (p.fr + m * long) ∨ m = 0 then baseF p.fr long m ++ [⟨p.fr + m * long, p.to⟩]
  else baseF p.fr long (m - 1) ++ [⟨p.fr + (m - 1 : Nat) * long, p.to⟩]
def takesF (s : Sit) : List Span := (stretchesF s.len 0 s.ps).flatMap (cutS s.long s.short)
theorem div_of {a b long : Int} {k : Nat} (h0 : 1 ≤ long) (h1 : a + k * long ≤ b) (h2 : b - (a + k * long) < long) : ((b - a) / long).toNat = k := by
  have : (b - a) / long = k := by
    have h3 := Int.mul_comm (k : Int) long
    rw [Int.ediv_eq_iff_of_pos (by omega)]
    constructor
    · omega
    · omega
  omega

/-- The last one's end. -/
theorem row_setTo {l : List Span} {p : Span} {n : Nat} {vs us : List Value} {b : Int} (h : Row spanE (l ++ [p]) n vs) (hu : us = vs.take ((n - 1) * 2 + 1) ++ [I b] ++ vs.drop ((n - 1) * 2 + 1 + 1)) : Row spanE (l ++ [⟨p.fr, b⟩]) n us := by
  obtain ⟨rfl, rfl⟩ := h
  have hl : ((l.map spanE.f).flatten).length = l.length * 2 := by
    clear hu
    induction l with
    | nil => rfl
    | cons x r ih => simp only [List.map_cons, List.flatten_cons, List.length_append, ih, List.length_cons]; rw [spanE.len]; show 2 + _ = _; omega
  refine ⟨by simp, ?_⟩
  subst hu
  simp only [List.length_append, List.length_cons, List.length_nil, List.map_append, List.flatten_append, List.map_cons, List.map_nil, List.flatten_cons, List.flatten_nil, List.append_nil]
  rw [List.take_append, List.drop_append, hl]
  have e1 : l.length + (0 + 1) - 1 = l.length := by omega
  rw [e1, List.take_of_length_le (by omega), List.drop_of_length_le (by omega)]
  have e2 : l.length * 2 + 1 - l.length * 2 = 1 := by omega
  have e3 : l.length * 2 + 1 + 1 - l.length * 2 = 2 := by omega
  rw [e2, e3]
  simp [spanE]

theorem takes33 : Sound Try.prog 33 id (grel (args1 sitRd fun s => validF s = true) fun s v G => SlV spanE G v (takesF s)) := by
  refine comp33.grel tabC (ok1 _ _) (fun args G s h => ?_) (fun x v G G' hg h => h.grow hg) (fun args G s h => ?_)
  · obtain ⟨v, rfl, _⟩ := h; simp
  · obtain ⟨v, rfl, ⟨w, rfl, a0, n0, c0, rfl, hl0, hn0⟩, hv⟩ := h
    obtain ⟨hv1, hv2, hv3, hv4⟩ := validF_iff.1 hv
    (conv => whnf)
    refine RelP.g (ok1 sitRd fun s => validF s = true) (x := s) ⟨_, rfl, ⟨_, rfl, a0, n0, c0, rfl, hl0, hn0⟩, hv⟩ (Grow.refl _) (fun v G1 hg1 hq => W.mk ?_)
    obtain ⟨a, n, c, rfl, hl, hn⟩ := hq
    obtain ⟨hch, hto⟩ := stretches_chain (fr := 0) hv1 (by omega) (by omega)
    generalize hL : stretchesF s.len 0 s.ps = L at hl hch hto
    have hT : takesF s = L.flatMap (cutS s.long s.short) := by rw [takesF, hL]
    (conv => whnf)
    refine LoopP.of { α := Nat × List Span × Nat × List Value, fr := fun x => [(1, .c (.ptr 0 0)), (3, .c (.row 2 x.2.2.1)), (4, .v (.slice a n c)), (5, .v (I x.1))], H := fun x => [(0, .cells .anon [.val (I s.len), .val (.slice a0 n0 c0), .val (I s.long), .val (I s.short)] 24), (2, .row none x.2.2.1 x.2.2.2 41 2)], ok := fun x _ => x.1 ≤ L.length ∧ (x.2.1.length : Int) ≤ 36000 ∧ (∀ h : x.1 < L.length, (x.2.1.length : Int) ≤ L[x.1].fr) ∧ Row spanE x.2.1 x.2.2.1 x.2.2.2 ∧ x.2.1 ++ (L.drop x.1).flatMap (cutS s.long s.short) = takesF s, m := fun x => L.length - x.1 }
      (0, [], 0, []) (HeadP.of [(2, none)] ⟨rfl, rfl, rfl, rfl, trivial⟩ ⟨rfl, rfl, trivial⟩) ⟨Nat.zero_le _, by simp, fun h => by have := (chain_drop 0 h hch).1; simpa using this, Row.nil, by simp [hT]⟩ (fun _ => ⟨rfl, rfl⟩) (fun x G2 hg2 hx => W.mk ?_)
    obtain ⟨i, out, m, vs⟩ := x
    obtain ⟨hi, ho, hfr, hr, hx⟩ := hx
    simp only at hi ho hfr hx hr
    replace hl := SlR.grow (G := G1) (G' := G2) (fun _ _ h => h) hl hg2
    have hlen := hl.len
    (conv => whnf)
    refine IteP.mk (fun hlt => W.mk ?_) (fun hge => W.mk ?_) <;> (conv => whnf)
    · have hlt : i < L.length := by omega
      have hc := hl.el hlt
      obtain ⟨q1, q2, q3⟩ := chain_drop i hlt hch
      have q4 := hto _ (List.getElem_mem hlt)
      have hfr := hfr hlt
      rw [List.drop_eq_getElem_cons hlt, List.flatMap_cons] at hx
      have hnext : ∀ h : i + 1 < L.length, L[i].to ≤ L[i + 1].fr := fun h => by
        have := (chain_drop 0 (by simp; omega) q3).1
        simpa using this
      generalize L[i] = p at hc q1 q2 q3 q4 hfr hx hnext
      repeat' (first | (refine OblP.mk ?_ (W.mk ?_); (first | trivial | omega | (simp only [inR]; omega) | exact Nat.le_of_ble_eq_true (by rfl) | exact SlR.some (by assumption) (by omega)); (conv => whnf)) | (refine RdP.at (by assumption) (by rfl) (W.mk ?_); (conv => whnf)) | (refine RdP.sub (by assumption) (by rfl) (W.mk ?_); (conv => whnf)) | (refine RdP.sub2 (by assumption) (by rfl) (W.mk ?_); (conv => whnf)) | (refine RdP.sub3 (by assumption) (by rfl) (W.mk ?_); (conv => whnf)) | (refine FinP.mk ?_))
      refine LoopP.of { α := Nat × Nat × List Value, fr := fun x => [(1, .c (.ptr 0 0)), (3, .c (.row 2 x.2.1)), (4, .v (.slice a n c)), (5, .v (I i)), (6, .v (I (p.fr + x.1 * s.long))), (7, .v (I x.1))], H := fun x => [(0, .cells .anon [.val (I s.len), .val (.slice a0 n0 c0), .val (I s.long), .val (I s.short)] 24), (2, .row none x.2.1 x.2.2 41 2)], ok := fun x _ => p.fr + x.1 * s.long ≤ p.to ∧ Row spanE (out ++ baseF p.fr s.long x.1) x.2.1 x.2.2 ∧ (x.1 : Int) ≤ x.1 * s.long, m := fun x => (p.to - (p.fr + x.1 * s.long)).toNat }
        (0, m, vs) (HeadP.of [] ⟨rfl, rfl, rfl, rfl, ?_, rfl, trivial⟩ ⟨rfl, rfl, trivial⟩) ⟨by simp; omega, by simpa [baseF] using hr, by simp⟩ (fun _ => ⟨rfl, rfl⟩) (fun x G3 hg3 hx2 => W.mk ?_)
      · show SV.v (I _) = SV.v (I _); simp
      obtain ⟨k, m2, vs2⟩ := x
      obtain ⟨hk, hr2, hkl⟩ := hx2
      simp only at hk hr2 hkl
      have hm2 := hr2.n
      simp only [List.length_append, baseF, List.length_map, List.length_range] at hm2
      replace hl := SlR.grow (G := G2) (G' := G3) (fun _ _ h => h) hl hg3
      replace hc := hc.grow hg3
      have hkm : ((k : Int) + 1) * s.long = k * s.long + s.long := by rw [Int.add_mul, Int.one_mul]
      dsimp only
      (conv => whnf)
      repeat' (first | (refine OblP.mk ?_ (W.mk ?_); (first | trivial | omega | (simp only [inR]; omega) | exact Nat.le_of_ble_eq_true (by rfl) | exact SlR.some (by assumption) (by omega)); (conv => whnf)) | (refine RdP.at (by assumption) (by rfl) (W.mk ?_); (conv => whnf)) | (refine RdP.sub (by assumption) (by rfl) (W.mk ?_); (conv => whnf)) | (refine RdP.sub2 (by assumption) (by rfl) (W.mk ?_); (conv => whnf)) | (refine RdP.sub3 (by assumption) (by rfl) (W.mk ?_); (conv => whnf)) | (refine FinP.mk ?_))
      refine IteP.mk (fun hge2 => W.mk ?_) (fun hge2 => W.mk ?_) <;> (conv => whnf)
      · repeat' (first | (refine OblP.mk ?_ (W.mk ?_); (first | trivial | omega | (simp only [inR]; omega) | exact Nat.le_of_ble_eq_true (by rfl) | exact SlR.some (by assumption) (by omega)); (conv => whnf)) | (refine RdP.at (by assumption) (by rfl) (W.mk ?_); (conv => whnf)) | (refine RdP.sub (by assumption) (by rfl) (W.mk ?_); (conv => whnf)) | (refine RdP.sub2 (by assumption) (by rfl) (W.mk ?_); (conv => whnf)) | (refine RdP.sub3 (by assumption) (by rfl) (W.mk ?_); (conv => whnf)) | (refine FinP.mk ?_))
        have hk1 : ((k + 1 : Nat) : Int) * s.long = k * s.long + s.long := by rw [Int.natCast_add, Int.cast_ofNat_Int, hkm]
        refine RoundP.of (k + 1, m2 + 1, vs2 ++ [I (p.fr + k * s.long), I (p.fr + k * s.long + s.long)]) (HeadP.of [(2, some 36)] ⟨rfl, rfl, rfl, rfl, ?_, rfl, trivial⟩ ⟨rfl, rfl, trivial⟩) ⟨?_, ?_, ?_⟩ ?_
        · show SV.v (I (p.fr + ((k + 1 : Nat) : Int) * s.long)) = SV.v (I (p.fr + k * s.long + s.long)); rw [hk1, Int.add_assoc]
        · show p.fr + ((k + 1 : Nat) : Int) * s.long ≤ p.to; rw [hk1]; omega
        · simp only [baseF_succ, hkm, ← List.append_assoc, ← Int.add_assoc]
          exact hr2.snoc _
        · show ((k + 1 : Nat) : Int) ≤ ((k + 1 : Nat) : Int) * s.long; rw [hk1]; omega
        · show (p.to - (p.fr + ((k + 1 : Nat) : Int) * s.long)).toNat < (p.to - (p.fr + (k : Int) * s.long)).toNat; rw [hk1]; omega
      · have hdiv := div_of (a := p.fr) (b := p.to) (long := s.long) (k := k) (by omega) (by omega) (by omega)
        have hcut : cutS s.long s.short p = if p.fr + (k * s.long) = p.to then baseF p.fr s.long k else if s.short ≤ p.to - (p.fr + k * s.long) ∨ k = 0 then baseF p.fr s.long k ++ [⟨p.fr + k * s.long, p.to⟩] else baseF p.fr s.long (k - 1) ++ [⟨p.fr + (k - 1 : Nat) * s.long, p.to⟩] := by
          simp only [cutS, hdiv]
        have key : ∀ ts, cutS s.long s.short p = ts → (ts.length : Int) ≤ p.to - p.fr → ((out ++ ts).length : Int) ≤ 36000 ∧ (∀ h : i + 1 < L.length, ((out ++ ts).length : Int) ≤ L[i + 1].fr) ∧ (out ++ ts) ++ (L.drop (i + 1)).flatMap (cutS s.long s.short) = takesF s := fun ts h1 h2 => by
          simp only [List.length_append]
          refine ⟨by omega, fun h => by have := hnext h; omega, ?_⟩
          rw [← hx, h1, List.append_assoc]
        have hb : ∀ j, (baseF p.fr s.long j).length = j := fun j => by simp [baseF]
        have hl2 := hr2.len
        have hl2 : vs2.length = m2 * 2 := hl2
        repeat' (first | (refine IteP.mk (fun _ => W.mk ?_) (fun _ => W.mk ?_) <;> (conv => whnf)) | (refine OblP.mk ?_ (W.mk ?_); (show _ ≤ vs2.length; omega); (conv => whnf)) | (refine OblP.mk ?_ (W.mk ?_); (first | trivial | omega | (simp only [inR]; omega) | exact Nat.le_of_ble_eq_true (by rfl) | exact SlR.some (by assumption) (by omega)); (conv => whnf)) | (first | (refine RdP.at (by assumption) (by rfl) (W.mk ?_); (conv => whnf)) | (refine RdP.sub (by assumption) (by rfl) (W.mk ?_); (conv => whnf)) | (refine RdP.sub2 (by assumption) (by rfl) (W.mk ?_); (conv => whnf)) | (refine RdP.sub3 (by assumption) (by rfl) (W.mk ?_); (conv => whnf))))
        all_goals try (exfalso; omega)
        · obtain ⟨k1, k2, k3⟩ := key _ (hcut.trans ((if_neg (by omega)).trans (if_pos (.inl (by omega))))) (by simp only [List.length_append, hb, List.length_singleton]; omega)
          refine RoundP.of (i + 1, _, m2 + 1, vs2 ++ [I (p.fr + k * s.long), I p.to]) (HeadP.of [(2, some 75)] ⟨rfl, rfl, rfl, rfl, trivial⟩ ⟨rfl, rfl, trivial⟩) ⟨hlt, k1, k2, ?_, k3⟩ (by simp only; omega)
          simp only [← List.append_assoc]
          exact hr2.snoc _
        · obtain ⟨k1, k2, k3⟩ := key _ (hcut.trans ((if_neg (by omega)).trans (if_pos (.inr (by omega))))) (by simp only [List.length_append, hb, List.length_singleton]; omega)
          refine RoundP.of (i + 1, _, m2 + 1, vs2 ++ [I (p.fr + k * s.long), I p.to]) (HeadP.of [(2, some 75)] ⟨rfl, rfl, rfl, rfl, trivial⟩ ⟨rfl, rfl, trivial⟩) ⟨hlt, k1, k2, ?_, k3⟩ (by simp only; omega)
          simp only [← List.append_assoc]
          exact hr2.snoc _
        · have hk0 : k ≠ 0 := by omega
          obtain ⟨k', rfl⟩ : ∃ k', k = k' + 1 := ⟨k - 1, by omega⟩
          obtain ⟨k1, k2, k3⟩ := key _ (hcut.trans ((if_neg (by omega)).trans (if_neg (by omega)))) (by simp only [List.length_append, hb, List.length_singleton]; omega)
          refine RoundP.of (i + 1, _, m2, vs2.take (((m2 : Int) - 1).toNat * 2 + 1) ++ [I p.to] ++ vs2.drop (((m2 : Int) - 1).toNat * 2 + 1 + 1)) (HeadP.of [] ⟨rfl, rfl, rfl, rfl, trivial⟩ ⟨rfl, rfl, trivial⟩) ⟨hlt, k1, k2, ?_, k3⟩ (by simp only; omega)
          rw [baseF_succ, ← List.append_assoc] at hr2
          have := row_setTo (b := p.to) hr2 rfl
          rw [show ((m2 : Int) - 1).toNat = m2 - 1 by omega]
          simp only [Nat.add_sub_cancel, ← List.append_assoc]
          exact this
        · obtain ⟨k1, k2, k3⟩ := key _ (hcut.trans (if_pos (by omega))) (by simp only [hb]; omega)
          refine RoundP.of (i + 1, _, m2, vs2) (HeadP.of [] ⟨rfl, rfl, rfl, rfl, trivial⟩ ⟨rfl, rfl, trivial⟩) ⟨hlt, k1, k2, hr2, k3⟩ (by simp only; omega)
    · have : i = L.length := by omega
      subst this
      simp only [List.drop_length, List.flatMap_nil, List.append_nil] at hx
      have hm := hr.n
      refine PubP.mk (fun a1 c1 G1 hg1 hp => W.mk ?_)
      (conv => whnf)
      refine FinP.mk ?_
      rw [← hx]
      exact hr.pub hp (by omega)
end Go.Proofs.Ytcmhpndhloplpaa
