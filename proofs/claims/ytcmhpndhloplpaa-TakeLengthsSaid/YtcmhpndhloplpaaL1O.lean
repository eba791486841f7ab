/- The walk of the search: its contract. -/
import Derived.Test.YtcmhpndhloplpaaL1N
namespace Go.Proofs.Ytcmhpndhloplpaa
open Go.Pal

set_option maxRecDepth 100000

abbrev ptr (b : Nat) : Value := .pointer (some ⟨b, 0, none⟩)
/-- The blocks that the search is lent. -/
structure Bk where
  b0 : Nat
  b1 : Nat
  b2 : Nat
  b3 : Nat
  b4 : Nat
  b5 : Nat
  b6 : Nat
abbrev Bk.caps (B : Bk) : Array Value := #[ptr B.b0, ptr B.b1, ptr B.b2, ptr B.b3, ptr B.b4, ptr B.b5]
abbrev selfV (B : Bk) : Value := .func (.func 54) #[] B.caps
abbrev mayV (w : Value) : Value := .func (.func 53) #[w] #[]
abbrev ledL (B : Bk) (wv : Value) (skip : Int) (r : Nat) (es : Array MapEntry) (c : Nat) : List LE :=
  [⟨B.b0, true, .cells [I r] 3⟩, ⟨B.b1, false, .cells [wv] 90⟩, ⟨B.b2, false, .cells [.map (some B.b6)] 104⟩, ⟨B.b3, false, .cells [I skip] 3⟩, ⟨B.b4, false, .cells [mayV wv] 105⟩, ⟨B.b5, false, .cells [selfV B] 106⟩, ⟨B.b6, true, .map es c⟩]

section
variable (x : Wk) (skip : Int) (wv : Value) (B : Bk)
def askPre (f : Nat) (args : List Value) (ls : List LE) (G : Hp) : Prop := ∃ (st : Stt) (gv : Value) (got : List Int) (r : Nat) (es : Array MapEntry) (c : Nat) (D : List Stt),
  args = [st.val, gv] ∧ SlV intE G gv got ∧ got.length = st.n ∧ WorkV G wv x ∧ st.n + f = x.t.length ∧ HadOk x st ∧ ls = ledL B wv skip r es c ∧ Dead es D ∧ DeadOk x skip D r ∧ r ≤ x.t.length
def askPost (f : Nat) (args : List Value) (ls : List LE) (v : Value) (ns : List LB) (G : Hp) : Prop := ∃ (st : Stt) (gv : Value) (got : List Int) (r : Nat) (es : Array MapEntry) (c : Nat) (r' : Nat) (es' : Array MapEntry) (c' : Nat) (D' : List Stt),
  args = [st.val, gv] ∧ SlV intE G gv got ∧ ls = ledL B wv skip r es c ∧ ns = [.cells [I r'] 3, .map es' c'] ∧ Dead es' D' ∧ DeadOk x skip D' r' ∧ r' = max r (reachF x skip f st) ∧ SlV intE G v (got ++ (leastF x skip f st).getD [])
abbrev askS (f : Nat) : PSpec := .st (askPre x skip wv B f) (askPost x skip wv B f)
end

theorem may_fn {w : Value} {pre : List Value → Hp → Prop} {post : List Value → Hp → Value → Prop} (h : Sound Try.prog 53 id (.sca pre post)) : SoundFn Try.prog (mayV w) (.sca (fun a G => pre (w :: a) G) (fun a G v => post (w :: a) G v)) := by
  refine SoundFn.of body53 ?_
  intro args G W h1 h2
  have := h (w :: args) G W h1 h2
  simpa using this

def tabN : Tab Try.prog := Tab.cons 56 _ clone56 body56 tabM

theorem fin7 {H : Nat → Option OB} {B : Bk} {wb : Nat} {skip : Int} {r : Nat} {es es' : Array MapEntry} {c c' : Nat} {u : Value} (h0 : H 0 = some (.cells (.named B.b0) [.val u] 3)) (h1 : H 1 = some (.cells (.named B.b1) [.val (ptr wb)] 90)) (h2 : H 2 = some (.cells (.named B.b2) [.mref 6] 104))
    (h3 : H 3 = some (.cells (.named B.b3) [.val (I skip)] 3)) (h4 : H 4 = some (.cells (.named B.b4) [.val (mayV (ptr wb))] 105)) (h5 : H 5 = some (.cells (.named B.b5) [.val (selfV B)] 106)) (h6 : H 6 = some (.map (.named B.b6) es' c')) :
    finL H 0 (ledL B (ptr wb) skip r es c) [.cells [u] 3, .map es' c'] := by
  refine ⟨.cells [u] 3, ⟨_, h0, rfl⟩, trivial, _, rfl, .cells [ptr wb] 90, ⟨_, h1, rfl⟩, trivial, rfl, .cells [.map (some B.b6)] 104, ⟨_, h2, ?_⟩, trivial, rfl, .cells [I skip] 3, ⟨_, h3, rfl⟩, trivial, rfl, .cells [mayV (ptr wb)] 105, ⟨_, h4, rfl⟩, trivial, rfl, .cells [selfV B] 106, ⟨_, h5, rfl⟩, trivial, rfl, .map es' c', h6, trivial, _, rfl, rfl⟩
  simp only [toValsH, S1.toValH, h6]
abbrev hsL (B : Bk) (wv : Value) (skip : Int) (r : Nat) (es : Array MapEntry) (c : Nat) : List (Nat × LE) :=
  [(0, ⟨B.b0, true, .cells [I r] 3⟩), (1, ⟨B.b1, false, .cells [wv] 90⟩), (2, ⟨B.b2, false, .cells [.map (some B.b6)] 104⟩), (3, ⟨B.b3, false, .cells [I skip] 3⟩), (4, ⟨B.b4, false, .cells [mayV wv] 105⟩), (5, ⟨B.b5, false, .cells [selfV B] 106⟩), (6, ⟨B.b6, true, .map es c⟩)]
theorem lend7 {H : Nat → Option OB} {B : Bk} {wb : Nat} {skip : Int} {r : Nat} {es : Array MapEntry} {c : Nat} (h0 : H 0 = some (.cells (.named B.b0) [.val (I r)] 3)) (h1 : H 1 = some (.cells (.named B.b1) [.val (ptr wb)] 90)) (h2 : H 2 = some (.cells (.named B.b2) [.mref 6] 104))
    (h3 : H 3 = some (.cells (.named B.b3) [.val (I skip)] 3)) (h4 : H 4 = some (.cells (.named B.b4) [.val (mayV (ptr wb))] 105)) (h5 : H 5 = some (.cells (.named B.b5) [.val (selfV B)] 106)) (h6 : H 6 = some (.map (.named B.b6) es c)) :
    lendOk H (hsL B (ptr wb) skip r es c) := by
  refine ⟨⟨_, h0, rfl⟩, ⟨_, h1, rfl⟩, ⟨_, h2, ?_⟩, ⟨_, h3, rfl⟩, ⟨_, h4, rfl⟩, ⟨_, h5, rfl⟩, h6, trivial⟩
  simp only [toValsH, S1.toValH, h6]
theorem cutAll {α : Type} {e : El α} {G : Hp} {a : Option Addr} {n c : Nat} {l : List α} (h : SlR e.k e.R G a n c l) (hn : n ≤ 140737488355328) {k : Nat} : SlV e G (.slice (cutA a (0 : Int).toNat (n : Int).toNat k) ((n : Int).toNat - (0 : Int).toNat) ((n : Int).toNat - (0 : Int).toNat)) l := by
  have e1 : cutA a (0 : Int).toNat (n : Int).toNat k = a := by
    unfold cutA
    split
    · rfl
    · rename_i h0
      rw [h.some (by simpa using h0)]
      simp [Addr.add]
  rw [e1]
  exact ⟨a, n, n, by simp, ⟨h.len, Nat.le_refl _, h.some, h.at_⟩, hn⟩
theorem ask54 {x : Wk} (hf : Fine x) (h5 : x.o.crew.length ≤ 5) (hT : x.t.length ≤ 1000000) (skip : Int) (wb : Nat) (B : Bk) : ∀ f, Sound Try.prog 54 (fun a => (#[] : Array Value).toList ++ a ++ B.caps.toList) (askS x skip (ptr wb) B f) := by
    intro f
    induction f using Nat.strongRecOn with | ind f ih =>
    refine ⟨fun args ls v ns G G' hg h => ?_, fun args ls G Wd hsub hls hnd hpre => ?_⟩
    · obtain ⟨st, gv, got, r, es, c, r', es', c', D', h1, h2, h3, h4, h5, h6, h7, h8⟩ := h
      exact ⟨st, gv, got, r, es, c, r', es', c', D', h1, h2.grow hg, h3, h4, h5, h6, h7, h8.grow hg⟩
    · obtain ⟨st, gv, got, r, es, c, D, rfl, ⟨a, n, cc, rfl, hl, hn⟩, hgl, hw, hfu, hh, rfl, hD, hDo, hr⟩ := hpre
      have hst : st.Ok := hh.ok (by omega) (by omega)
      have hw0 := hw
      obtain ⟨_, w1, w2, w3, hp, cw, ⟨a1, n1, c1, rfl, l1, hn1⟩, ⟨a2, n2, c2, rfl, l2, hn2⟩, ⟨a3, n3, c3, rfl, l3, hn3⟩⟩ := hw
      cases hp
      have e2 := l2.len
      have e3 := l3.len
      obtain ⟨m, y0, y1, y2, y3, y4, h5', e⟩ := Stt.cases st
      have em : st.n = m := by rw [e]
      subst em
      refine st_sound tabN comp54 (svs := [.agg [.val (I st.n), .val (I y0), .val (I y1), .val (I y2), .val (I y3), .val (I y4)], .v (.slice a n cc), .c (.ptr 0 0), .c (.ptr 1 0), .c (.ptr 2 0), .c (.ptr 3 0), .c (.ptr 4 0), .c (.ptr 5 0)])
        (obs := [.cells (.named B.b0) [.val (I r)] 3, .cells (.named B.b1) [.val (ptr wb)] 90, .cells (.named B.b2) [.mref 6] 104, .cells (.named B.b3) [.val (I skip)] 3, .cells (.named B.b4) [.val (mayV (ptr wb))] 105, .cells (.named B.b5) [.val (selfV B)] 106, .map (.named B.b6) es c])
        (by simp) hsub hls hnd (Nat.le_refl _) ?_ ?_ ?_
      · refine ⟨⟨[I st.n, I y0, I y1, I y2, I y3, I y4], by rw [e]; rfl, relL_vals _ [I st.n, I y0, I y1, I y2, I y3, I y4]⟩, fun c hc => ?_, rfl, trivial, ⟨_, rfl, rfl⟩, (Nat.le_of_ble_eq_true rfl : 0 < 7), ⟨_, rfl, rfl⟩, (Nat.le_of_ble_eq_true rfl : 1 < 7), ⟨_, rfl, rfl⟩, (Nat.le_of_ble_eq_true rfl : 2 < 7), ⟨_, rfl, rfl⟩, (Nat.le_of_ble_eq_true rfl : 3 < 7), ⟨_, rfl, rfl⟩, (Nat.le_of_ble_eq_true rfl : 4 < 7), ⟨_, rfl, rfl⟩, (Nat.le_of_ble_eq_true rfl : 5 < 7), trivial⟩
        simp at hc; rcases hc with rfl | rfl | rfl | rfl | rfl | rfl <;> trivial
      · refine ⟨⟨_, rfl, relL_vals _ [I r], ?_⟩, ⟨_, rfl, relL_vals _ [ptr wb], ?_⟩, ⟨_, rfl, ?_, ?_⟩, ⟨_, rfl, relL_vals _ [I skip], ?_⟩, ⟨_, rfl, relL_vals _ [mayV (ptr wb)], ?_⟩, ⟨_, rfl, relL_vals _ [selfV B], ?_⟩, rfl, trivial⟩
        · intro c hc; simp at hc; subst hc; trivial
        · intro c hc; simp at hc; subst hc; trivial
        · exact ⟨⟨rfl, _, rfl⟩, trivial⟩
        · intro c hc; simp at hc; subst hc; exact (Nat.le_of_ble_eq_true rfl : 6 < 7)
        · intro c hc; simp at hc; subst hc; trivial
        · intro c hc; simp at hc; subst hc; trivial
        · intro c hc; simp at hc; subst hc; trivial
      · (conv => whnf)
        repeat' (first | (refine OblP.mk ?_ (W.mk ?_); (first | trivial | omega | (simp only [inR]; omega) | exact Nat.le_of_ble_eq_true (by rfl) | exact SlR.some (by assumption) (by omega)); (conv => whnf)) | (first | (refine RdP.at (by assumption) (by rfl) (W.mk ?_); (conv => whnf)) | (refine RdP.sub (by assumption) (by rfl) (W.mk ?_); (conv => whnf)) | (refine RdP.sub2 (by assumption) (by rfl) (W.mk ?_); (conv => whnf)) | (refine RdP.sub3 (by assumption) (by rfl) (W.mk ?_); (conv => whnf))))
        refine IteP.mk (fun hT1 => W.mk ?_) (fun hT1 => W.mk ?_) <;> (conv => whnf)
        · have hcap := hl.cap
          have hf0 : f = 0 := by omega
          repeat' (first | (refine OblP.mk ?_ (W.mk ?_); (first | trivial | omega | (simp only [inR]; omega) | exact Nat.le_of_ble_eq_true (by rfl) | exact SlR.some (by assumption) (by omega)); (conv => whnf)) | (first | (refine RdP.at (by assumption) (by rfl) (W.mk ?_); (conv => whnf)) | (refine RdP.sub (by assumption) (by rfl) (W.mk ?_); (conv => whnf)) | (refine RdP.sub2 (by assumption) (by rfl) (W.mk ?_); (conv => whnf)) | (refine RdP.sub3 (by assumption) (by rfl) (W.mk ?_); (conv => whnf))))
          refine FinS.mk ⟨_, fin7 rfl rfl rfl rfl rfl rfl rfl, ?_⟩
          subst hf0
          have hmx : max (r : Int) (st.n : Int) = ((max r st.n : Nat) : Int) := by omega
          refine ⟨st, _, got, r, es, c, max r st.n, es, c, D, rfl, ⟨a, n, cc, rfl, hl, hn⟩, rfl, by rw [← hmx], hD, hDo.mono (by omega), rfl, ?_⟩
          simp only [leastF, Option.getD_some, List.append_nil]
          exact cutAll hl hn
        · have hv : st.val = .agg #[I st.n, I y0, I y1, I y2, I y3, I y4] := by rw [e]; rfl
          rcases hD.find hst with ⟨hnot, hk⟩ | ⟨hin, j, hk, hlk, _⟩ <;> rw [hv] at hk
          · refine KeyP.mk ⟨_, hk, W.mk ?_⟩
            (conv => whnf)
            refine ForkP.mk (fun h => by cases h) (fun _ => W.mk ?_)
            (conv => whnf)
            repeat' (first | (refine OblP.mk ?_ (W.mk ?_); (first | trivial | omega | (simp only [inR]; omega) | exact Nat.le_of_ble_eq_true (by rfl) | exact SlR.some (by assumption) (by omega)); (conv => whnf)) | (first | (refine RdP.at (by assumption) (by rfl) (W.mk ?_); (conv => whnf)) | (refine RdP.sub (by assumption) (by rfl) (W.mk ?_); (conv => whnf)) | (refine RdP.sub2 (by assumption) (by rfl) (W.mk ?_); (conv => whnf)) | (refine RdP.sub3 (by assumption) (by rfl) (W.mk ?_); (conv => whnf))))
            obtain ⟨f', rfl⟩ : ∃ f', f = f' + 1 := ⟨f - 1, by omega⟩
            have hmx : max (r : Int) (st.n : Int) = ((max r st.n : Nat) : Int) := by omega
            have hmx2 : OB.cells (.named B.b0) [.val (I ((max r st.n : Nat) : Int))] 3 = OB.cells (.named B.b0) [.val (.int .i64 (max (r : Int) (st.n : Int)))] 3 := by rw [hmx]
            refine LoopP.of { α := Nat × Nat × Array MapEntry × Nat × List Stt, fr := fun x => [(1, .v (.slice a n cc)), (2, .c (.ptr 0 0)), (3, .c (.ptr 1 0)), (4, .c (.ptr 2 0)), (5, .c (.ptr 3 0)), (6, .c (.ptr 4 0)), (7, .c (.ptr 5 0)), (8, .c (.ptr 7 0)), (41, .v (I n2)), (42, .v (I x.1))], H := fun x => [(0, .cells (.named B.b0) [.val (I x.2.1)] 3), (1, .cells (.named B.b1) [.val (ptr wb)] 90), (2, .cells (.named B.b2) [.mref 6] 104), (3, .cells (.named B.b3) [.val (I skip)] 3), (4, .cells (.named B.b4) [.val (mayV (ptr wb))] 105), (5, .cells (.named B.b5) [.val (selfV B)] 106), (6, .map (.named B.b6) x.2.2.1 x.2.2.2.1), (7, .cells .anon [.val (I st.n), .val (I y0), .val (I y1), .val (I y2), .val (I y3), .val (I y4)] 110)], ok := fun z _ => z.1 ≤ x.o.crew.length ∧ Dead z.2.2.1 z.2.2.2.2 ∧ DeadOk x skip z.2.2.2.2 z.2.1 ∧ st.n ≤ z.2.1 ∧ z.2.1 ≤ x.t.length ∧ max z.2.1 (farF x skip st (reachF x skip f') ((crewL x).drop z.1)) = max r (reachF x skip (f' + 1) st) ∧ goF x skip st (leastF x skip f') (fun i => (i : Int)) ((crewL x).drop z.1) = leastF x skip (f' + 1) st, m := fun z => x.o.crew.length - z.1 }
              (0, max r st.n, es, c, D) (HeadP.of [] ⟨rfl, rfl, rfl, rfl, rfl, rfl, rfl, rfl, rfl, rfl, trivial⟩ ⟨hmx2, rfl, rfl, rfl, rfl, rfl, rfl, rfl, trivial⟩) ⟨Nat.zero_le _, hD, hDo.mono (by simp only; omega), by simp only; omega, by simp only; omega, ?_, rfl⟩ (fun _ => ⟨rfl, rfl⟩) (fun z G' hG hx => W.mk ?_)
            · show max (max r st.n) (farF x skip st (reachF x skip f') (crewL x)) = max r (farF x skip st (reachF x skip f') (crewL x))
              have := farF_ge (x := x) (skip := skip) (s := st) (rec := reachF x skip f') (l := crewL x)
              omega
            obtain ⟨i, r2, es2, c2, D2⟩ := z
            obtain ⟨hi, hD2, hDo2, hr2, hrT, hmax, hgo⟩ := hx
            dsimp only at hi hD2 hDo2 hr2 hrT hmax hgo
            dsimp only
            replace hl := SlR.grow (G := G) (G' := G') (fun _ _ h => h) hl hG
            replace cw := cw.grow hG
            replace hw0 := hw0.grow hG
            (conv => whnf)
            refine IteP.mk (fun hlt => W.mk ?_) (fun hge => W.mk ?_) <;> (conv => whnf)
            · have hlt : i < x.o.crew.length := by omega
              have hdrop : (crewL x).drop i = i :: (crewL x).drop (i + 1) := by
                rw [List.drop_eq_getElem_cons (by simpa [crewL] using hlt)]; simp [crewL]
              rw [hdrop] at hmax hgo
              unfold farF at hmax
              unfold goF at hgo
              refine IteP.mk (fun hsk => W.mk ?_) (fun hsk => W.mk ?_) <;> (conv => whnf)
              · have hc : canF x skip st i = false := by simp [canF, hsk]
                rw [hc] at hmax hgo
                (refine OblP.mk ?_ (W.mk ?_); (first | trivial | omega | (simp only [inR]; omega) | exact Nat.le_of_ble_eq_true (by rfl) | exact SlR.some (by assumption) (by omega)); (conv => whnf))
                exact RoundP.of (i + 1, r2, es2, c2, D2) (HeadP.of [] ⟨rfl, rfl, rfl, rfl, rfl, rfl, rfl, rfl, rfl, rfl, trivial⟩ ⟨rfl, rfl, rfl, rfl, rfl, rfl, rfl, rfl, trivial⟩) ⟨hlt, hD2, hDo2, hr2, hrT, hmax, hgo⟩ (by simp only; omega)
              · refine CallvP.fn _ (may_fn may53) (W.mk ?_)
                (conv => whnf)
                refine ScaP.g (ok3 workRd sttRd natRd fun x s i => Fine x ∧ s.n < x.t.length ∧ i < x.o.crew.length ∧ x.o.crew.length ≤ 5 ∧ HadOk x s) (x := (x, st, i)) ⟨_, _, _, rfl, hw0, hv.symm, rfl, hf, by simp only; omega, hlt, h5, hh⟩ (fun v hv2 => W.mk ?_)
                subst hv2
                (conv => whnf)
                refine ForkP.mk (fun hm => W.mk ?_) (fun hm => W.mk ?_) <;> (conv => whnf)
                · have hm : mayF x st i = true := hm
                  have hc : canF x skip st i = true := by simp [canF, hm, hsk]
                  rw [hc] at hmax hgo
                  dsimp only at hmax hgo
                  refine ScaP.g (ok2 sttRd natRd fun s i => i < 5 ∧ s.n ≤ 1000000) (x := (st, i)) ⟨_, _, rfl, hv.symm, rfl, by simp only; omega, by simp only; omega⟩ (fun v hv3 => W.mk ?_)
                  dsimp only at hv3
                  obtain ⟨m', z0, z1, z2, z3, z4, h5z, eg⟩ := Stt.cases (giveF st i)
                  have hvg : (giveF st i).val = .agg #[I m', I z0, I z1, I z2, I z3, I z4] := by rw [eg]; rfl
                  rw [hvg] at hv3
                  subst hv3
                  (conv => whnf)
                  refine OwnP.g (ok1 (slRd intE) fun l => l.length ≤ 8796093022207) (x := got) ⟨_, rfl, ⟨a, n, cc, rfl, hl, hn⟩, by show got.length ≤ _; omega⟩ (Grow.refl _) (fun n3' vs G1 hg1 hq => W.mk ?_)
                  (conv => whnf)
                  have hqn := hq.n
                  repeat' (first | (refine OblP.mk rfl (W.mk ?_); (conv => whnf)) | (refine OblP.mk ?_ (W.mk ?_); (first | trivial | omega | (simp only [inR]; omega) | exact Nat.le_of_ble_eq_true (by rfl) | exact SlR.some (by assumption) (by omega)); (conv => whnf)))
                  refine PubP.mk (fun ga gc G2 hg2 hp => W.mk ?_)
                  (conv => whnf)
                  refine FnvP.mk ⟨askS x skip (ptr wb) B f', SoundFn.of body54 (ih f' (by omega)), W.mk ?_⟩
                  have hgg : Grow G' G2 := hg1.trans hg2
                  have hslv : SlV intE G2 (.slice ga (n3' + 1) gc) (got ++ [(i : Int)]) := (hq.snoc (i : Int)).pub hp (by omega)
                  have hgn : (giveF st i).n = st.n + 1 := rfl
                  refine StP.mk ⟨hsL B (ptr wb) skip r2 es2 c2, lend7 rfl rfl rfl rfl rfl rfl rfl, (by show ([0, 1, 2, 3, 4, 5, 6] : List Nat).Nodup; decide), ⟨giveF st i, _, got ++ [(i : Int)], r2, es2, c2, D2, by rw [hvg], hslv, by simp [hgl, hgn], hw0.grow hgg, by omega, hh.give (by omega), rfl, hD2, hDo2, hrT⟩, fun v ns G3 hg3 hpost => W.mk ?_⟩
                  obtain ⟨st', gv', got', r0', es0', c0', r', es', c', D', q1, q2, q3, rfl, hD3, hDo3, q4, q5⟩ := hpost
                  simp only [List.cons.injEq, and_true] at q1
                  obtain ⟨q1, rfl⟩ := q1
                  have hst' : giveF st i = st' := Stt.val_inj (hvg.trans q1)
                  subst hst'
                  have hgot : got' = got ++ [(i : Int)] := q2.uniq (hslv.grow hg3)
                  subst hgot
                  simp only [List.map_cons, List.cons.injEq, LE.mk.injEq, LB.cells.injEq, Value.int.injEq, true_and, and_true] at q3
                  have hr0 : r0' = r2 := by omega
                  subst hr0
                  obtain ⟨ra, rn, rc, rfl, rl, hrn⟩ := q5
                  (conv => whnf)
                  have cw3 := cw.grow (hgg.trans hg3)
                  have hrl := rl.len
                  repeat' (first | (refine OblP.mk ?_ (W.mk ?_); (first | trivial | omega | (simp only [inR]; omega) | exact Nat.le_of_ble_eq_true (by rfl) | exact SlR.some (by assumption) (by omega)); (conv => whnf)) | (first | (refine RdP.at (by assumption) (by rfl) (W.mk ?_); (conv => whnf)) | (refine RdP.sub (by assumption) (by rfl) (W.mk ?_); (conv => whnf)) | (refine RdP.sub2 (by assumption) (by rfl) (W.mk ?_); (conv => whnf)) | (refine RdP.sub3 (by assumption) (by rfl) (W.mk ?_); (conv => whnf))))
                  cases hL : leastF x skip f' (giveF st i) with
                  | none =>
                    have hf'0 : f' ≠ 0 := fun h0 => by subst h0; cases hL
                    rw [hL] at hgo rl hrl
                    dsimp only at hgo
                    simp only [Option.getD_none, List.append_nil, List.length_append, List.length_cons, List.length_nil] at rl hrl
                    refine IteP.mk (fun hq1 => W.mk ?_) (fun hq1 => W.mk ?_)
                    · exfalso; omega
                    (conv => whnf)
                    (refine OblP.mk ?_ (W.mk ?_); (first | trivial | omega | (simp only [inR]; omega) | exact Nat.le_of_ble_eq_true (by rfl) | exact SlR.some (by assumption) (by omega)); (conv => whnf))
                    refine RoundP.of (i + 1, r', es', c', D') (HeadP.of [] ⟨rfl, rfl, rfl, rfl, rfl, rfl, rfl, rfl, rfl, rfl, trivial⟩ ⟨rfl, rfl, rfl, rfl, rfl, rfl, rfl, rfl, trivial⟩) ⟨hlt, hD3, hDo3, by simp only; omega, ?_, ?_, hgo⟩ (by simp only; omega)
                    · have := reach_le (x := x) (skip := skip) (f := f') (s := giveF st i)
                      simp only; omega
                    · simp only; omega
                  | some e' =>
                    have hfull := reach_full hL
                    rw [hL] at hgo rl hrl
                    dsimp only at hgo
                    simp only [Option.getD_some, List.length_append, List.length_cons, List.length_nil] at rl hrl
                    refine IteP.mk (fun hq1 => W.mk ?_) (fun hq1 => W.mk ?_)
                    · (conv => whnf)
                      refine FinS.mk ⟨_, fin7 rfl rfl rfl rfl rfl rfl rfl, ?_⟩
                      have hfull2 := reach_full hgo.symm
                      refine ⟨st, _, got, r, es, c, r', es', c', D', by rw [hv], ⟨a, n, cc, rfl, SlR.grow (G := G') (G' := G3) (fun _ _ h => h) hl (hgg.trans hg3), hn⟩, rfl, rfl, hD3, hDo3, by omega, ?_⟩
                      rw [← hgo]
                      simp only [Option.getD_some]
                      rw [List.append_assoc] at rl
                      exact ⟨ra, rn, rc, rfl, rl, hrn⟩
                    · exfalso; omega
                · have hm : mayF x st i = false := hm
                  have hc : canF x skip st i = false := by simp [canF, hm]
                  rw [hc] at hmax hgo
                  (refine OblP.mk ?_ (W.mk ?_); (first | trivial | omega | (simp only [inR]; omega) | exact Nat.le_of_ble_eq_true (by rfl) | exact SlR.some (by assumption) (by omega)); (conv => whnf))
                  exact RoundP.of (i + 1, r2, es2, c2, D2) (HeadP.of [] ⟨rfl, rfl, rfl, rfl, rfl, rfl, rfl, rfl, rfl, rfl, trivial⟩ ⟨rfl, rfl, rfl, rfl, rfl, rfl, rfl, rfl, trivial⟩) ⟨hlt, hD2, hDo2, hr2, hrT, hmax, hgo⟩ (by simp only; omega)
            · have hi2 : i = x.o.crew.length := by omega
              have hdrop : (crewL x).drop i = [] := by rw [hi2]; simp [crewL]
              rw [hdrop] at hmax hgo
              simp only [farF, goF] at hmax hgo
              have hfs : x.t.length - st.n = f' + 1 := by omega
              have post : ∀ (es4 : Array MapEntry) (c4 : Nat) (D4 : List Stt), Dead es4 D4 → DeadOk x skip D4 r2 → askPost x skip (ptr wb) B (f' + 1) [st.val, .slice a n cc] (ledL B (ptr wb) skip r es c) (.slice a n cc) [.cells [I r2] 3, .map es4 c4] G' := fun es4 c4 D4 k1 k2 => by
                refine ⟨st, _, got, r, es, c, r2, es4, c4, D4, rfl, ⟨a, n, cc, rfl, hl, hn⟩, rfl, rfl, k1, k2, by omega, ?_⟩
                rw [← hgo]
                simp only [Option.getD_none, List.append_nil]
                exact ⟨a, n, cc, rfl, hl, hn⟩
              rcases hD2.find hst with ⟨hnot2, hk2⟩ | ⟨hin2, j2, hk2, _, hput⟩ <;> rw [hv] at hk2
              · refine KeyP.mk ⟨_, hk2, W.mk ?_⟩
                (conv => whnf)
                refine FinS.mk ⟨_, fin7 rfl rfl rfl rfl rfl rfl rfl, ?_⟩
                have := hD2.put hst hnot2 (c := c2)
                rw [hv] at this
                exact post _ _ _ this (hDo2.snoc (by rw [hfs]; exact hgo.symm) (by rw [hfs]; omega))
              · refine KeyP.mk ⟨_, hk2, W.mk ?_⟩
                (conv => whnf)
                refine FinS.mk ⟨_, fin7 rfl rfl rfl rfl rfl rfl rfl, ?_⟩
                have := hput c2
                rw [hv] at this
                exact post _ _ _ this hDo2
          · refine KeyP.mk ⟨_, hk, W.mk ?_⟩
            dsimp only
            rw [hlk]
            (conv => whnf)
            refine ForkP.mk (fun _ => W.mk ?_) (fun h => by cases h)
            (conv => whnf)
            have hcap := hl.cap
            repeat' (first | (refine OblP.mk ?_ (W.mk ?_); (first | trivial | omega | (simp only [inR]; omega) | exact Nat.le_of_ble_eq_true (by rfl) | exact SlR.some (by assumption) (by omega)); (conv => whnf)) | (first | (refine RdP.at (by assumption) (by rfl) (W.mk ?_); (conv => whnf)) | (refine RdP.sub (by assumption) (by rfl) (W.mk ?_); (conv => whnf)) | (refine RdP.sub2 (by assumption) (by rfl) (W.mk ?_); (conv => whnf)) | (refine RdP.sub3 (by assumption) (by rfl) (W.mk ?_); (conv => whnf))))
            refine FinS.mk ⟨_, fin7 rfl rfl rfl rfl rfl rfl rfl, ?_⟩
            have hdo := hDo.out st hin (by omega)
            rw [show x.t.length - st.n = f by omega] at hdo
            have hge := reach_ge (x := x) (skip := skip) (f := f) (s := st)
            have hmx : max (r : Int) (st.n : Int) = ((max r st.n : Nat) : Int) := by omega
            refine ⟨st, _, got, r, es, c, max r st.n, es, c, D, by rw [hv], ⟨a, n, cc, rfl, hl, hn⟩, rfl, by rw [← hmx], hD, hDo.mono (by omega), by omega, ?_⟩
            rw [hdo.1]
            simp only [Option.getD_none, List.append_nil]
            exact cutAll hl hn
end Go.Proofs.Ytcmhpndhloplpaa
