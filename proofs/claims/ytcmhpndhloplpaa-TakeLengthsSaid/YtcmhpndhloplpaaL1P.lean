/- The least list: the function that searches. -/
import Derived.Test.YtcmhpndhloplpaaL1O
namespace Go.Proofs.Ytcmhpndhloplpaa
open Go.Pal

set_option maxRecDepth 100000

def tabP : Tab Try.prog := Tab.cons 53 _ may53 body53 tabN
/-- The list of what has been and what comes; how far any goes. -/
def restF (x : Wk) (l : List Int) (skip : Int) : List Int := l ++ (leastF x skip (x.t.length - l.length) (beginF l)).getD []
def farthestF (x : Wk) (l : List Int) (skip : Int) : Nat := reachF x skip (x.t.length - l.length) (beginF l)
theorem begin_len (l : List Int) : (beginF l).n = l.length := by
  have := begin_n l startF
  rw [beginF, this]; exact Nat.zero_add _
theorem begin_had {x : Wk} : ∀ (l : List Int) (s : Stt), HadOk x s → s.n + l.length ≤ x.t.length → HadOk x (l.foldl (fun s i => giveF s i.toNat) s)
  | [], _, h, _ => h
  | i :: r, s, h, hl => by
    simp only [List.length_cons] at hl
    exact begin_had r _ (h.give (by omega)) (by simp only [giveF]; omega)
theorem begin_ok {x : Wk} {l : List Int} (h : l.length ≤ x.t.length) : HadOk x (beginF l) :=
  begin_had l startF (fun j hj => by simp [startF] at hj; exact .inl hj) (by simpa [startF] using h)
abbrev hsK (k0 k1 k2 k3 k4 k5 k6 : Nat) (B : Bk) (wv : Value) (skip : Int) (r : Nat) (es : Array MapEntry) (c : Nat) : List (Nat × LE) :=
  [(k0, ⟨B.b0, true, .cells [I r] 3⟩), (k1, ⟨B.b1, false, .cells [wv] 90⟩), (k2, ⟨B.b2, false, .cells [.map (some B.b6)] 104⟩), (k3, ⟨B.b3, false, .cells [I skip] 3⟩), (k4, ⟨B.b4, false, .cells [mayV wv] 105⟩), (k5, ⟨B.b5, false, .cells [selfV B] 106⟩), (k6, ⟨B.b6, true, .map es c⟩)]
theorem lendK {k0 k1 k2 k3 k4 k5 k6 : Nat} {H : Nat → Option OB} {B : Bk} {wb : Nat} {skip : Int} {r : Nat} {es : Array MapEntry} {c : Nat} (h0 : H k0 = some (.cells (.named B.b0) [.val (I r)] 3)) (h1 : H k1 = some (.cells (.named B.b1) [.val (ptr wb)] 90)) (h2 : H k2 = some (.cells (.named B.b2) [.mref k6] 104))
    (h3 : H k3 = some (.cells (.named B.b3) [.val (I skip)] 3)) (h4 : H k4 = some (.cells (.named B.b4) [.val (mayV (ptr wb))] 105)) (h5 : H k5 = some (.cells (.named B.b5) [.val (selfV B)] 106)) (h6 : H k6 = some (.map (.named B.b6) es c)) :
    lendOk H (hsK k0 k1 k2 k3 k4 k5 k6 B (ptr wb) skip r es c) := by
  refine ⟨⟨_, h0, rfl⟩, ⟨_, h1, rfl⟩, ⟨_, h2, ?_⟩, ⟨_, h3, rfl⟩, ⟨_, h4, rfl⟩, ⟨_, h5, rfl⟩, h6, trivial⟩
  simp only [toValsH, S1.toValH, h6]
theorem least44 : Sound Try.prog 44 id (grel (args3 workRd (slRd intE) intRd fun x l _ => Fine x ∧ x.o.crew.length ≤ 5 ∧ x.t.length ≤ 1000000 ∧ l.length ≤ x.t.length ∧ ∀ j ∈ l, 0 ≤ j ∧ j < 5) fun x v G => ∃ w, v = .tuple #[w, I (farthestF x.1 x.2.1 x.2.2)] ∧ SlV intE G w (restF x.1 x.2.1 x.2.2)) := by
  refine comp44.grel tabP (ok3 _ _ _ _) (fun args G s h => ?_) (fun x v G G' hg h => ?_) (fun args G x h => ?_)
  · obtain ⟨u, v, w, rfl, _⟩ := h; simp
  · obtain ⟨w, rfl, h⟩ := h; exact ⟨w, rfl, h.grow hg⟩
  · obtain ⟨x, l, skip⟩ := x
    obtain ⟨u, v, w, rfl, hw, hl, rfl, hf, h5, hT, hle, hj⟩ := h
    simp only at hw hl hf h5 hT hle hj
    have hw0 := hw
    obtain ⟨wb, w1, w2, w3, rfl, _⟩ := hw
    have hl0 := hl
    obtain ⟨a, n, c, rfl, hl, hn⟩ := hl
    (conv => whnf)
    refine NameP.mk (fun b0 => W.mk ?_)
    (conv => whnf)
    refine NameP.mk (fun b1 => W.mk ?_)
    (conv => whnf)
    refine NameP.mk (fun b2 => W.mk ?_)
    (conv => whnf)
    refine NameP.mk (fun b6 => W.mk ?_)
    (conv => whnf)
    refine NameP.mk (fun b3 => W.mk ?_)
    (conv => whnf)
    refine NameP.mk (fun b4 => W.mk ?_)
    (conv => whnf)
    refine NameP.mk (fun b5 => W.mk ?_)
    (conv => whnf)
    refine ScaP.g (ok1 (slRd intE) fun l => l.length ≤ 1000000 ∧ ∀ x ∈ l, 0 ≤ x ∧ x < 5) (x := l) ⟨_, rfl, hl0, by omega, hj⟩ (fun v hv3 => W.mk ?_)
    obtain ⟨m', z0, z1, z2, z3, z4, h5z, eg⟩ := Stt.cases (beginF l)
    have hvg : (beginF l).val = .agg #[I m', I z0, I z1, I z2, I z3, I z4] := by rw [eg]; rfl
    rw [hvg] at hv3
    subst hv3
    (conv => whnf)
    refine OwnP.g (ok1 (slRd intE) fun l => l.length ≤ 8796093022207) (x := l) ⟨_, rfl, hl0, by omega⟩ (Grow.refl _) (fun n3' vs G1 hg1 hq => W.mk ?_)
    (conv => whnf)
    have hqn := hq.n
    refine PubP.mk (fun ga gc G2 hg2 hp => W.mk ?_)
    (conv => whnf)
    have hslv : SlV intE G2 (.slice ga n3' gc) l := hq.pub hp (by omega)
    refine FnvP.mk ⟨askS x skip (ptr wb) ⟨b0, b1, b2, b3, b4, b5, b6⟩ (x.t.length - l.length), SoundFn.of body54 (ask54 hf h5 hT skip wb ⟨b0, b1, b2, b3, b4, b5, b6⟩ _), W.mk ?_⟩
    refine StP.mk ⟨hsK 3 0 5 1 9 11 4 ⟨b0, b1, b2, b3, b4, b5, b6⟩ (ptr wb) skip 0 #[] 0, lendK rfl rfl rfl rfl rfl rfl rfl, (by show ([3, 0, 5, 1, 9, 11, 4] : List Nat).Nodup; decide), ⟨beginF l, _, l, 0, #[], 0, [], by rw [hvg], hslv, (begin_len l).symm, WorkV.grow (hg1.trans hg2) hw0, by rw [begin_len]; omega, begin_ok hle, rfl, Dead.nil, ⟨fun d hd => by cases hd⟩, Nat.zero_le _⟩, fun v ns G3 hg3 hpost => W.mk ?_⟩
    obtain ⟨st', gv', got', r0', es0', c0', r', es', c', D', q1, q2, q3, rfl, hD3, hDo3, q4, q5⟩ := hpost
    simp only [List.cons.injEq, and_true] at q1
    obtain ⟨q1, rfl⟩ := q1
    have hst' : beginF l = st' := Stt.val_inj (hvg.trans q1)
    subst hst'
    have hgot : got' = l := q2.uniq (hslv.grow hg3)
    subst hgot
    simp only [List.map_cons, List.cons.injEq, LE.mk.injEq, LB.cells.injEq, Value.int.injEq, true_and, and_true] at q3
    have hr0 : r0' = 0 := by omega
    subst hr0
    obtain ⟨ra, rn, rc, rfl, rl, hrn⟩ := q5
    have hrr : r' = farthestF x got' skip := by rw [q4]; simp [farthestF]
    (conv => whnf)
    repeat' (refine OblP.mk ?_ (W.mk ?_); (first | trivial | omega | (simp only [inR]; omega) | exact Nat.le_of_ble_eq_true (by rfl) | exact SlR.some (by assumption) (by omega)); (conv => whnf))
    refine FinP.mk ⟨_, ?_, ⟨ra, rn, rc, rfl, rl, hrn⟩⟩
    rw [← hrr]; rfl
end Go.Proofs.Ytcmhpndhloplpaa
