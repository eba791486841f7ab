/- The offices: valid. The offices: valid; the work. The work; the rota. The rota. Helpers of the laws: the same lists; the chamber. Awake: the fixed example. The drawn sitting, made. The first law: the lengths. Plain. The first law: walked. Which take stands at a moment. The second law: each second is in one take, or paused. Plain. The second law, plain: which take holds a moment. The second law: walked. The laws' own functions: drawn values without a bound; thin, valid, ready, copies. The drawn values of this layer, opened; a law's row. -/
import Derived.Test.YtcmhpndhloplpaaME
import Derived.Test.YtcmhpndhloplpaaMC
import Derived.Test.YtcmhpndhloplpaaRows
namespace Go.Proofs.Ytcmhpndhloplpaa
open Go.Pal

set_option maxRecDepth 100000

def tabQ : Tab Try.prog := Tab.cons 44 _ least44 body44 (Tab.cons 54 (.fn (fun _ _ => False) fun _ => undef) (fun _ _ _ _ h => h.elim) body54 tabP)
def repRd : Rd Rep := ⟨fun _ v p => v = .agg #[I p.lo, I p.hi, I p.rest], fun {_ _ x y} h h' => by rw [h] at h'; cases x; cases y; simp at h'; simp [h'], fun {_ _ _ _} _ h => h⟩
def fineR (r : Rep) : Bool := decide (0 ≤ r.lo ∧ r.lo ≤ r.hi ∧ r.hi ≤ 20) && inF r.rest 0 36000
theorem fine63 : Sound Try.prog 63 id (gsca (args1 repRd fun _ => True) fun r v => v = .bool (fineR r)) := by
  refine comp63.gsca tabP (fun args G s h => ?_) (fun args G r h => ?_)
  · obtain ⟨v, rfl, _⟩ := h; simp
  · obtain ⟨v, rfl, rfl, _⟩ := h
    (conv => whnf)
    repeat' (first | (refine IteP.mk (fun _ => W.mk ?_) (fun _ => W.mk ?_) <;> (conv => whnf)) | (refine OblP.mk ⟨_, _, _, rfl⟩ (W.mk ?_); (conv => whnf)) | (refine OblP.mk ?_ (W.mk ?_); (first | trivial | omega | (simp only [inR]; omega) | exact Nat.le_of_ble_eq_true (by rfl) | exact SlR.some (by assumption) (by omega)); (conv => whnf)) | (refine ForkP.mk (fun _ => W.mk ?_) (fun _ => W.mk ?_) <;> (conv => whnf)) | (refine FinP.mk ?_))
    all_goals (refine congrArg Value.bool ?_; simp [fineR, *] <;> omega)

theorem SoundFn.plain {g : FuncId} {s : PSpec} (hb : HasBody Try.prog g) (h : Sound Try.prog g id s) : SoundFn Try.prog (.func (.func g) #[] #[]) s := by
  refine SoundFn.of hb ?_
  have : (fun args : List Value => (#[] : Array Value).toList ++ args ++ (#[] : Array Value).toList) = id := by funext a; simp
  rw [this]; exact h
abbrev f63 : Value := .func (.func 63) #[] #[]
abbrev ledQ (b : Nat) : List LE := [⟨b, false, .cells [f63] 117⟩]
abbrev closV (b : Nat) : Value := .func (.func 68) #[] #[ptr b]
theorem finQ {H : Nat → Option OB} {b : Nat} (h : H 0 = some (.cells (.named b) [.val f63] 117)) : finL H 0 (ledQ b) [] := ⟨.cells [f63] 117, ⟨_, h, rfl⟩, trivial, rfl, rfl⟩
def notS (b : Nat) : PSpec := .st (fun args ls _ => (∃ r : Rep, args = [.agg #[I r.lo, I r.hi, I r.rest]]) ∧ ls = ledQ b) (fun args _ v ns _ => ∃ r : Rep, args = [.agg #[I r.lo, I r.hi, I r.rest]] ∧ v = .bool (!fineR r) ∧ ns = [])
theorem not68 (b : Nat) : Sound Try.prog 68 (fun a => (#[] : Array Value).toList ++ a ++ (#[ptr b] : Array Value).toList) (notS b) := by
  refine ⟨fun args ls v ns G G' hg h => h, fun args ls G Wd hsub hls hnd hpre => ?_⟩
  obtain ⟨⟨r, rfl⟩, rfl⟩ := hpre
  refine st_sound tabP comp68 (svs := [.agg [.val (I r.lo), .val (I r.hi), .val (I r.rest)], .c (.ptr 0 0)]) (obs := [.cells (.named b) [.val f63] 117]) (by simp) hsub hls hnd (Nat.le_refl _) ?_ ?_ ?_
  · refine ⟨⟨[I r.lo, I r.hi, I r.rest], rfl, relL_vals _ [I r.lo, I r.hi, I r.rest]⟩, fun c hc => ?_, ⟨_, rfl, rfl⟩, (Nat.le_of_ble_eq_true rfl : 0 < 1), trivial⟩
    simp at hc; rcases hc with rfl | rfl | rfl <;> trivial
  · refine ⟨⟨_, rfl, relL_vals _ [f63], ?_⟩, trivial⟩
    intro c hc; simp at hc; subst hc; trivial
  · (conv => whnf)
    refine CallvP.fn _ (SoundFn.plain body63 fine63) (W.mk ?_)
    (conv => whnf)
    refine ScaP.g (ok1 repRd fun _ => True) (x := r) ⟨_, rfl, rfl, trivial⟩ (fun v hv => W.mk ?_)
    subst hv
    (conv => whnf)
    refine ForkP.mk (fun hm => W.mk ?_) (fun hm => W.mk ?_) <;> (conv => whnf) <;> refine FinS.mk ⟨_, finQ rfl, r, rfl, ?_, rfl⟩ <;> rw [hm] <;> rfl

def idxF (l : List Rep) (k : Nat) : Int := match l with
  | [] => -1
  | r :: t => if fineR r then idxF t (k + 1) else (k : Int)
def idxS : PSpec := .st (fun args ls G => ∃ b, (∃ (w : Value) (l : List Rep), args = [w, closV b] ∧ SlV repE G w l) ∧ ls = ledQ b) (fun args _ v ns G => ∃ (b : Nat) (w : Value) (l : List Rep), args = [w, closV b] ∧ SlV repE G w l ∧ v = I (idxF l 0) ∧ ns = [])
theorem idx72 : Sound Try.prog 72 id idxS := by
  refine ⟨fun args ls v ns G G' hg h => ?_, fun args ls G Wd hsub hls hnd hpre => ?_⟩
  · obtain ⟨b, w, l, h1, h2, h3⟩ := h; exact ⟨b, w, l, h1, h2.grow hg, h3⟩
  obtain ⟨b, ⟨w, l, rfl, ⟨a, n, c, rfl, hl, hn⟩⟩, rfl⟩ := hpre
  refine st_sound tabP comp72 (svs := [.v (.slice a n c), .v (closV b)]) (obs := [.cells (.named b) [.val f63] 117]) (by simp) hsub hls hnd (Nat.le_refl _) ?_ ?_ ?_
  · exact ⟨rfl, trivial, rfl, trivial, trivial⟩
  · refine ⟨⟨_, rfl, relL_vals _ [f63], ?_⟩, trivial⟩
    intro c hc; simp at hc; subst hc; trivial
  · have hlen := hl.len
    (conv => whnf)
    refine LoopP.of { α := Nat, fr := fun x => [(0, .v (.slice a n c)), (1, .v (closV b)), (7, .v (I n)), (8, .v (I x))], H := fun _ => [(0, .cells (.named b) [.val f63] 117)], ok := fun x _ => x ≤ l.length ∧ idxF (l.drop x) x = idxF l 0, m := fun x => l.length - x }
      0 (HeadP.of [] ⟨rfl, rfl, rfl, rfl, trivial⟩ ⟨rfl, trivial⟩) ⟨Nat.zero_le _, rfl⟩ (fun _ => ⟨rfl, rfl⟩) (fun (x : Nat) G' hG hx => W.mk ?_)
    obtain ⟨hi, hx⟩ := hx
    replace hl := SlR.grow (G := G) (G' := G') (fun _ _ h => h) hl hG
    (conv => whnf)
    refine IteP.mk (fun hlt => W.mk ?_) (fun hge => W.mk ?_) <;> (conv => whnf)
    · have hlt : x < l.length := by omega
      have hc := hl.el hlt
      rw [List.drop_eq_getElem_cons hlt, idxF] at hx
      repeat' (first | (refine OblP.mk ?_ (W.mk ?_); (first | trivial | omega | (simp only [inR]; omega) | exact Nat.le_of_ble_eq_true (by rfl) | exact SlR.some (by assumption) (by omega)); (conv => whnf)) | (first | (refine RdP.at (by assumption) (by rfl) (W.mk ?_); (conv => whnf)) | (refine RdP.sub (by assumption) (by rfl) (W.mk ?_); (conv => whnf)) | (refine RdP.sub2 (by assumption) (by rfl) (W.mk ?_); (conv => whnf)) | (refine RdP.sub3 (by assumption) (by rfl) (W.mk ?_); (conv => whnf))))
      refine CallvP.fn _ (SoundFn.of body68 (not68 b)) (W.mk ?_)
      (conv => whnf)
      refine StP.mk ⟨[(0, ⟨b, false, .cells [f63] 117⟩)], ⟨⟨_, rfl, rfl⟩, trivial⟩, by simp, ⟨⟨l[x], rfl⟩, rfl⟩, fun v ns G3 hg3 hpost => W.mk ?_⟩
      obtain ⟨r, q1, rfl, rfl⟩ := hpost
      simp only [List.cons.injEq, and_true, Value.agg.injEq] at q1
      have hr : r = l[x] := (repRd.uniq (G := G) (v := .agg #[I l[x].lo, I l[x].hi, I l[x].rest]) rfl (congrArg Value.agg q1)).symm
      subst hr
      (conv => whnf)
      refine ForkP.mk (fun hm => W.mk ?_) (fun hm => W.mk ?_) <;> (conv => whnf)
      · refine FinS.mk ⟨_, finQ rfl, b, _, l, rfl, ⟨a, n, c, rfl, SlR.grow (G := G') (G' := G3) (fun _ _ h => h) hl hg3, hn⟩, ?_, rfl⟩
        rw [if_neg (by simpa using hm)] at hx
        rw [← hx]; rfl
      · (refine OblP.mk ?_ (W.mk ?_); (first | trivial | omega | (simp only [inR]; omega) | exact Nat.le_of_ble_eq_true (by rfl) | exact SlR.some (by assumption) (by omega)); (conv => whnf))
        rw [if_pos (by simpa using hm)] at hx
        exact RoundP.of (x + 1) (HeadP.of [] ⟨rfl, rfl, rfl, rfl, trivial⟩ ⟨rfl, trivial⟩) ⟨hlt, hx⟩ (by simp only; omega)
    · have : x = l.length := by omega
      subst this
      rw [List.drop_length] at hx
      refine FinS.mk ⟨_, finQ rfl, b, _, l, rfl, ⟨a, n, c, rfl, hl, hn⟩, ?_, rfl⟩
      rw [← hx]; rfl
theorem idxF_all : ∀ (l : List Rep) (k : Nat), decide (0 ≤ idxF l k) = !(l.all fineR)
  | [], k => rfl
  | r :: t, k => by
    unfold idxF
    cases hf : fineR r with
    | true => simp only [if_true, List.all_cons, hf, Bool.true_and]; exact idxF_all t _
    | false => simp [hf]
end Go.Proofs.Ytcmhpndhloplpaa

namespace Go.Proofs.Ytcmhpndhloplpaa
open Go.Pal

set_option maxRecDepth 100000

def tabR : Tab Try.prog := Tab.cons 72 _ idx72 body72 tabP
def anyS : PSpec := .st (fun args ls G => ∃ b, (∃ (w : Value) (l : List Rep), args = [w, closV b] ∧ SlV repE G w l) ∧ ls = ledQ b) (fun args _ v ns G => ∃ (b : Nat) (w : Value) (l : List Rep), args = [w, closV b] ∧ SlV repE G w l ∧ v = .bool (!(l.all fineR)) ∧ ns = [])
theorem any67 : Sound Try.prog 67 id anyS := by
  refine ⟨fun args ls v ns G G' hg h => ?_, fun args ls G Wd hsub hls hnd hpre => ?_⟩
  · obtain ⟨b, w, l, h1, h2, h3⟩ := h; exact ⟨b, w, l, h1, h2.grow hg, h3⟩
  obtain ⟨b, ⟨w, l, rfl, ⟨a, n, c, rfl, hl, hn⟩⟩, rfl⟩ := hpre
  refine st_sound tabR comp67 (svs := [.v (.slice a n c), .v (closV b)]) (obs := [.cells (.named b) [.val f63] 117]) (by simp) hsub hls hnd (Nat.le_refl _) ?_ ?_ ?_
  · exact ⟨rfl, trivial, rfl, trivial, trivial⟩
  · refine ⟨⟨_, rfl, relL_vals _ [f63], ?_⟩, trivial⟩
    intro c hc; simp at hc; subst hc; trivial
  · have hlen := hl.len
    (conv => whnf)
    refine StP.mk ⟨[(0, ⟨b, false, .cells [f63] 117⟩)], ⟨⟨_, rfl, rfl⟩, trivial⟩, by simp, ⟨b, ⟨_, l, rfl, ⟨a, n, c, rfl, hl, hn⟩⟩, rfl⟩, fun v ns G3 hg3 hpost => W.mk ?_⟩
    obtain ⟨b', w', l', q1, q2, rfl, rfl⟩ := hpost
    simp only [List.cons.injEq, and_true] at q1
    obtain ⟨rfl, _⟩ := q1
    have : l' = l := q2.uniq (SlV.grow hg3 ⟨a, n, c, rfl, hl, hn⟩)
    subst this
    have hall := idxF_all l' 0
    (conv => whnf)
    refine IteP.mk (fun hq => W.mk ?_) (fun hq => W.mk ?_) <;> (conv => whnf) <;> refine FinS.mk ⟨_, finQ rfl, b, _, l', rfl, q2, ?_, rfl⟩ <;> rw [← hall] <;> simp [*] <;> rfl
def argsF : GRel (List Rep) := fun args G l => ∃ w, args = [w, f63] ∧ SlV repE G w l
theorem okF : GOk argsF := ⟨fun _ _ _ _ ⟨v, h, h1⟩ ⟨v', h', h1'⟩ => by rw [h] at h'; cases h'; exact h1.uniq h1', fun _ _ _ _ hg ⟨v, h, h1⟩ => ⟨v, h, h1.grow hg⟩⟩
theorem all62 : Sound Try.prog 62 id (gsca argsF fun l v => v = .bool (l.all fineR)) := by
  refine comp62.gsca (Tab.cons 67 _ any67 body67 tabR) (fun args G s h => ?_) (fun args G l h => ?_)
  · obtain ⟨w, rfl, _⟩ := h; simp
  · obtain ⟨w, rfl, ⟨a, n, c, rfl, hl, hn⟩⟩ := h
    (conv => whnf)
    refine NameP.mk (fun b => W.mk ?_)
    (conv => whnf)
    refine StP.mk ⟨[(0, ⟨b, false, .cells [f63] 117⟩)], ⟨⟨_, rfl, rfl⟩, trivial⟩, by simp, ⟨b, ⟨_, l, rfl, ⟨a, n, c, rfl, hl, hn⟩⟩, rfl⟩, fun v ns G3 hg3 hpost => W.mk ?_⟩
    obtain ⟨b', w', l', q1, q2, rfl, rfl⟩ := hpost
    simp only [List.cons.injEq, and_true] at q1
    obtain ⟨rfl, _⟩ := q1
    have : l' = l := q2.uniq (SlV.grow hg3 ⟨a, n, c, rfl, hl, hn⟩)
    subst this
    (conv => whnf)
    refine ForkP.mk (fun hm => W.mk ?_) (fun hm => W.mk ?_) <;> (conv => whnf) <;> refine FinP.mk ?_ <;> (refine congrArg Value.bool ?_; simpa using hm)
def validO (o : Off) : Bool := inF o.crew.length 1 5 && (o.crew.all fineR && (inF o.due 0 36000 && inF o.delay 0 36000))
theorem valid49 : Sound Try.prog 49 id (gsca (args1 offRd fun _ => True) fun o v => v = .bool (validO o)) := by
  refine comp49.gsca (Tab.cons 62 _ all62 body62 (Tab.cons 67 _ any67 body67 tabR)) (fun args G s h => ?_) (fun args G o h => ?_)
  · obtain ⟨v, rfl, _⟩ := h; simp
  · obtain ⟨v, rfl, ⟨w, rfl, a, n, c, rfl, hl, hn⟩, _⟩ := h
    have hlen := hl.len
    (conv => whnf)
    refine OblP.mk ⟨_, _, _, rfl⟩ (W.mk ?_); (conv => whnf)
    refine ForkP.mk (fun h1 => W.mk ?_) (fun h1 => W.mk ?_) <;> (conv => whnf)
    · refine ScaP.g okF (x := o.crew) ⟨_, rfl, ⟨a, n, c, rfl, hl, hn⟩⟩ (fun v hv => W.mk ?_)
      subst hv
      (conv => whnf)
      refine ForkP.mk (fun h2 => W.mk ?_) (fun h2 => W.mk ?_) <;> (conv => whnf)
      · refine OblP.mk ⟨_, _, _, rfl⟩ (W.mk ?_); (conv => whnf)
        refine ForkP.mk (fun h3 => W.mk ?_) (fun h3 => W.mk ?_) <;> (conv => whnf)
        · refine OblP.mk ⟨_, _, _, rfl⟩ (W.mk ?_); (conv => whnf)
          repeat' (first | (refine ForkP.mk (fun _ => W.mk ?_) (fun _ => W.mk ?_) <;> (conv => whnf)) | (refine FinP.mk ?_))
          all_goals (refine congrArg Value.bool ?_; simp_all [validO])
        · repeat' (first | (refine ForkP.mk (fun _ => W.mk ?_) (fun _ => W.mk ?_) <;> (conv => whnf)) | (refine FinP.mk ?_))
          all_goals (refine congrArg Value.bool ?_; simp_all [validO])
      · repeat' (first | (refine ForkP.mk (fun _ => W.mk ?_) (fun _ => W.mk ?_) <;> (conv => whnf)) | (refine FinP.mk ?_))
        all_goals (refine congrArg Value.bool ?_; rw [validO, hlen, h1, h2]; rfl)
    · repeat' (first | (refine ForkP.mk (fun _ => W.mk ?_) (fun _ => W.mk ?_) <;> (conv => whnf)) | (refine FinP.mk ?_))
      all_goals (refine congrArg Value.bool ?_; simp_all [validO])
end Go.Proofs.Ytcmhpndhloplpaa

namespace Go.Proofs.Ytcmhpndhloplpaa
open Go.Pal

set_option maxRecDepth 100000

def tabS : Tab Try.prog := Tab.cons 49 _ valid49 body49 (Tab.cons 44 _ least44 body44 tabR)
def errW (s : Sit) (o : Off) : Int := if faultF s = 0 then (if validO o then 0 else 1) else faultF s
def wkF (s : Sit) (o : Off) : Wk := ⟨s, o, takesF s⟩
def WkR (G : Hp) (v : Value) (s : Sit) (o : Off) : Prop := ∃ w, v = .tuple #[w, I (errW s o)] ∧ (if errW s o = 0 then WorkV G w (wkF s o) else w = .pointer none)
theorem WkR.grow {G G' : Hp} {v : Value} {s : Sit} {o : Off} (hg : Grow G G') (h : WkR G v s o) : WkR G' v s o := by
  obtain ⟨w, h1, h2⟩ := h
  refine ⟨w, h1, ?_⟩
  split at h2
  · rename_i he; rw [if_pos he]; exact WorkV.grow hg h2
  · rename_i he; rw [if_neg he]; exact h2
theorem work43 : Sound Try.prog 43 id (grel (args2 sitRd offRd fun s _ => Calm s) fun x v G => WkR G v x.1 x.2) := by
  refine comp43.grel tabS (ok2 _ _ _) (fun args G s h => ?_) (fun x v G G' hg h => WkR.grow hg h) (fun args G x h => ?_)
  · obtain ⟨v, w, rfl, _⟩ := h; simp
  · obtain ⟨s, o⟩ := x
    obtain ⟨u, v, rfl, ⟨w1, rfl, a, n, c, rfl, hl, hn⟩, ⟨w2, rfl, a2, n2, c2, rfl, hl2, hn2⟩, hcalm⟩ := h
    simp only at hl hl2 hcalm
    dsimp only
    (conv => whnf)
    refine RelP.g (ok1 sitRd fun s => Calm s) (x := s) ⟨_, rfl, ⟨_, rfl, a, n, c, rfl, hl, hn⟩, hcalm⟩ (Grow.refl _) (fun v G1 hg1 hq => W.mk ?_)
    obtain ⟨w, rfl, hq⟩ := hq
    split at hq
    · rename_i he
      obtain ⟨a1, n1, c1, rfl, hl1, hn1⟩ := hq
      (conv => whnf)
      refine IteP.mk (fun h => W.mk ?_) (fun h => absurd he h)
      (conv => whnf)
      refine ScaP.g (ok1 offRd fun _ => True) (x := o) ⟨_, rfl, ⟨_, rfl, a2, n2, c2, rfl, SlR.grow (G := G) (G' := G1) (fun _ _ h => h) hl2 hg1, hn2⟩, trivial⟩ (fun v hv => W.mk ?_)
      subst hv
      (conv => whnf)
      refine ForkP.mk (fun h2 => W.mk ?_) (fun h2 => W.mk ?_) <;> (conv => whnf)
      · refine PubCP.mk (fun b G2 hg2 hc => W.mk ?_)
        (conv => whnf)
        refine FinP.mk ?_
        have e0 : errW s o = 0 := by rw [errW, if_pos he, if_pos h2]
        refine ⟨_, by rw [e0]; rfl, ?_⟩
        rw [if_pos e0]
        exact ⟨b, _, _, _, rfl, hc, SlV.grow (hg1.trans hg2) ⟨a, n, c, rfl, hl, hn⟩, SlV.grow (hg1.trans hg2) ⟨a2, n2, c2, rfl, hl2, hn2⟩, SlV.grow hg2 ⟨a1, n1, c1, rfl, hl1, hn1⟩⟩
      · refine FinP.mk ?_
        have e0 : errW s o = 1 := by rw [errW, if_pos he, if_neg (by rw [h2]; decide)]
        refine ⟨_, by rw [e0]; rfl, ?_⟩
        rw [if_neg (by rw [e0]; decide)]
    · rename_i he
      subst hq
      (conv => whnf)
      refine IteP.mk (fun h => absurd h he) (fun h => W.mk ?_)
      (conv => whnf)
      refine FinP.mk ?_
      have e0 : errW s o = faultF s := by rw [errW, if_neg he]
      refine ⟨_, by rw [e0]; rfl, ?_⟩
      rw [if_neg (by rw [e0]; exact he)]
end Go.Proofs.Ytcmhpndhloplpaa

namespace Go.Proofs.Ytcmhpndhloplpaa
open Go.Pal

set_option maxRecDepth 100000

theorem base_bd {a long : Int} (h0 : 1 ≤ long) : ∀ {m : Nat}, ∀ q ∈ baseF a long m, a ≤ q.fr ∧ q.fr ≤ q.to ∧ q.to ≤ a + m * long
  | 0, q, hq => by simp [baseF] at hq
  | m + 1, q, hq => by
    rw [baseF_succ] at hq
    have e : ((m + 1 : Nat) : Int) * long = m * long + long := by rw [Int.natCast_add, Int.add_mul]; omega
    have e' : ((m : Int) + 1) * long = m * long + long := by rw [Int.add_mul]; omega
    have hp : 0 ≤ (m : Int) * long := Int.mul_nonneg (by omega) (by omega)
    rcases List.mem_append.1 hq with hq | hq
    · have := base_bd h0 (m := m) q hq
      rw [e]; omega
    · simp only [List.mem_singleton] at hq
      subst hq
      simp only
      rw [e, e']; omega
theorem cut_bd {long short : Int} {p : Span} (h0 : 1 ≤ long) (hp : p.fr ≤ p.to) : ∀ q ∈ cutS long short p, p.fr ≤ q.fr ∧ q.fr ≤ q.to ∧ q.to ≤ p.to := by
  intro q hq
  have hd : 0 ≤ (p.to - p.fr) / long := Int.ediv_nonneg (by omega) (by omega)
  have hmul : ((p.to - p.fr) / long).toNat * long ≤ p.to - p.fr := by
    have := Int.ediv_mul_le (p.to - p.fr) (show long ≠ 0 by omega)
    rwa [Int.toNat_of_nonneg hd]
  have hn : 0 ≤ (((p.to - p.fr) / long).toNat : Int) * long := Int.mul_nonneg (by omega) (by omega)
  simp only [cutS] at hq
  generalize ((p.to - p.fr) / long).toNat = m at hq hmul hn
  have hb : ∀ k : Nat, k ≤ m → (0 ≤ (k : Int) * long ∧ (k : Int) * long ≤ m * long) ∧ ∀ q ∈ baseF p.fr long k, p.fr ≤ q.fr ∧ q.fr ≤ q.to ∧ q.to ≤ p.to := fun k hk => by
    have h1 : (k : Int) * long ≤ m * long := Int.mul_le_mul_of_nonneg_right (by omega) (by omega)
    have h2 : 0 ≤ (k : Int) * long := Int.mul_nonneg (by omega) (by omega)
    refine ⟨⟨h2, h1⟩, fun q hq => ?_⟩
    have := base_bd h0 q hq
    omega
  split at hq
  · exact (hb m (Nat.le_refl _)).2 q hq
  · split at hq
    · rcases List.mem_append.1 hq with hq | hq
      · exact (hb m (Nat.le_refl _)).2 q hq
      · simp only [List.mem_singleton] at hq
        subst hq
        simp only; omega
    · rcases List.mem_append.1 hq with hq | hq
      · exact (hb (m - 1) (by omega)).2 q hq
      · simp only [List.mem_singleton] at hq
        subst hq
        have := (hb (m - 1) (by omega)).1
        simp only; omega
theorem chain_mem : ∀ {l : List Span} {lo : Int}, chain lo l → ∀ p ∈ l, lo ≤ p.fr ∧ p.fr < p.to := fun {l lo} h p hp => by
  obtain ⟨i, hi, e⟩ := List.getElem_of_mem hp
  have := chain_drop i hi h
  rw [← e]; exact ⟨this.1, this.2.1⟩
theorem takes_bd {s : Sit} (h : validF s = true) : ∀ q ∈ takesF s, 0 ≤ q.fr ∧ q.fr ≤ q.to ∧ q.to ≤ s.len := by
  intro q hq
  obtain ⟨h1, h2, h3, h4⟩ := validF_iff.1 h
  obtain ⟨c1, c2⟩ := stretches_chain (fr := 0) h1 (Int.le_refl _) (by omega)
  obtain ⟨p, hp, hq⟩ := List.mem_flatMap.1 hq
  have k1 := chain_mem c1 p hp
  have k2 := c2 p hp
  have := cut_bd (by omega) (by omega) q hq
  omega
theorem err0 {s : Sit} {o : Off} (h : errW s o = 0) : validF s = true ∧ (takesF s).length ≤ 40 ∧ validO o = true := by
  unfold errW at h
  split at h
  · rename_i hf
    split at h
    · rename_i hv
      unfold faultF at hf
      split at hf
      · rename_i hv2
        split at hf
        · cases hf
        · exact ⟨hv2, by omega, hv⟩
      · cases hf
    · cases h
  · rename_i hf; exact absurd h hf
theorem fine0 {s : Sit} {o : Off} (h : errW s o = 0) : Fine (wkF s o) ∧ (1 ≤ o.crew.length ∧ o.crew.length ≤ 5) ∧ (takesF s).length ≤ 40 := by
  obtain ⟨h1, h2, h3⟩ := err0 h
  obtain ⟨_, h4, _⟩ := validF_iff.1 h1
  simp only [validO, Bool.and_eq_true, inF, decide_eq_true_eq, List.all_eq_true] at h3
  obtain ⟨k1, k2, k3, k4⟩ := h3
  refine ⟨⟨fun p hp => ?_, fun p hp => ?_, ?_, ?_⟩, by omega, h2⟩
  · have := takes_bd h1 p hp
    simp only [Little]; omega
  · have := k2 p hp
    simp only [fineR, inF, Bool.and_eq_true, decide_eq_true_eq] at this
    simp only [Little]; omega
  · show Little o.due; simp only [Little]; omega
  · show Little o.delay; simp only [Little]; omega

def rotaE (s : Sit) (o : Off) : Int := if errW s o = 0 then (if farthestF (wkF s o) [] (-1) < (takesF s).length then 9 else 0) else errW s o
def rotaF (s : Sit) (o : Off) : List Int := restF (wkF s o) [] (-1)
def RotaR (G : Hp) (v : Value) (s : Sit) (o : Off) : Prop := ∃ w, v = .tuple #[w, I (rotaE s o)] ∧ (if rotaE s o = 0 then SlV intE G w (rotaF s o) else w = .slice none 0 0)
theorem RotaR.grow {G G' : Hp} {v : Value} {s : Sit} {o : Off} (hg : Grow G G') (h : RotaR G v s o) : RotaR G' v s o := by
  obtain ⟨w, h1, h2⟩ := h
  refine ⟨w, h1, ?_⟩
  split at h2
  · rename_i he; rw [if_pos he]; exact SlV.grow hg h2
  · rename_i he; rw [if_neg he]; exact h2
def tabT : Tab Try.prog := Tab.cons 43 _ work43 body43 tabS
theorem rota17 : Sound Try.prog 17 id (grel (args2 sitRd offRd fun s _ => Calm s) fun x v G => RotaR G v x.1 x.2) := by
  refine comp17.grel tabT (ok2 _ _ _) (fun args G s h => ?_) (fun x v G G' hg h => RotaR.grow hg h) (fun args G x h => ?_)
  · obtain ⟨v, w, rfl, _⟩ := h; simp
  · obtain ⟨s, o⟩ := x
    obtain ⟨u, v, rfl, ⟨w1, rfl, a, n, c, rfl, hl, hn⟩, ⟨w2, rfl, a2, n2, c2, rfl, hl2, hn2⟩, hcalm⟩ := h
    simp only at hl hl2 hcalm
    dsimp only
    (conv => whnf)
    refine RelP.g (ok2 sitRd offRd fun s _ => Calm s) (x := (s, o)) ⟨_, _, rfl, ⟨_, rfl, a, n, c, rfl, hl, hn⟩, ⟨_, rfl, a2, n2, c2, rfl, hl2, hn2⟩, hcalm⟩ (Grow.refl _) (fun v G1 hg1 hq => W.mk ?_)
    obtain ⟨w, rfl, hq⟩ := hq
    simp only at hq
    dsimp only
    split at hq
    · rename_i he
      obtain ⟨hf, hc, ht⟩ := fine0 he
      have hq0 := hq
      obtain ⟨b, v1, v2, v3, rfl, cw, _, _, ⟨a3, n3, c3, rfl, l3, hn3⟩⟩ := hq
      have e3 := l3.len
      have e3 : (takesF s).length = n3 := e3
      (conv => whnf)
      refine IteP.mk (fun h => W.mk ?_) (fun h => absurd he h)
      (conv => whnf)
      refine RelP.g (ok3 workRd (slRd intE) intRd fun x l _ => Fine x ∧ x.o.crew.length ≤ 5 ∧ x.t.length ≤ 1000000 ∧ l.length ≤ x.t.length ∧ ∀ j ∈ l, 0 ≤ j ∧ j < 5) (x := (wkF s o, [], -1)) ⟨_, _, _, rfl, hq0, SlV.nil, rfl, hf, hc.2, by show (takesF s).length ≤ _; omega, Nat.zero_le _, fun j hj => by cases hj⟩ (Grow.refl _) (fun v G2 hg2 hq2 => W.mk ?_)
      obtain ⟨w4, rfl, a4, n4, c4, rfl, l4, hn4⟩ := hq2
      dsimp only
      have cw2 := cw.grow hg2
      (conv => whnf)
      repeat' (first | (refine OblP.mk ?_ (W.mk ?_); (first | trivial | omega | (simp only [inR]; omega) | exact Nat.le_of_ble_eq_true (by rfl) | exact SlR.some (by assumption) (by omega)); (conv => whnf)) | (first | (refine RdP.at (by assumption) (by rfl) (W.mk ?_); (conv => whnf)) | (refine RdP.sub (by assumption) (by rfl) (W.mk ?_); (conv => whnf)) | (refine RdP.sub2 (by assumption) (by rfl) (W.mk ?_); (conv => whnf)) | (refine RdP.sub3 (by assumption) (by rfl) (W.mk ?_); (conv => whnf))))
      refine IteP.mk (fun hlt => W.mk ?_) (fun hlt => W.mk ?_) <;> (conv => whnf) <;> refine FinP.mk ?_
      · have e0 : rotaE s o = 9 := by rw [rotaE, if_pos he, if_pos (by omega)]
        refine ⟨_, by rw [e0]; rfl, ?_⟩
        rw [if_neg (by rw [e0]; decide)]
      · have e0 : rotaE s o = 0 := by rw [rotaE, if_pos he, if_neg (by omega)]
        refine ⟨_, by rw [e0]; rfl, ?_⟩
        rw [if_pos e0]
        exact ⟨a4, n4, c4, rfl, l4, hn4⟩
    · rename_i he
      subst hq
      (conv => whnf)
      refine IteP.mk (fun h => absurd h he) (fun h => W.mk ?_)
      (conv => whnf)
      refine FinP.mk ?_
      have e0 : rotaE s o = errW s o := by rw [rotaE, if_neg he]
      refine ⟨_, by rw [e0]; rfl, ?_⟩
      rw [if_neg (by rw [e0]; exact he)]
end Go.Proofs.Ytcmhpndhloplpaa

namespace Go.Proofs.Ytcmhpndhloplpaa
open Go.Pal

set_option maxRecDepth 100000

theorem ints29 : Sound Try.prog 29 id (gsca (args2 (slRd intE) (slRd intE) fun _ _ => True) fun x v => v = .bool (decide (x.1 = x.2))) := by
  refine comp29.gsca (Tab.nil _) (fun args G s h => ?_) (fun args G x h => ?_)
  · obtain ⟨v, w, rfl, _⟩ := h; simp
  · obtain ⟨l, k⟩ := x
    obtain ⟨u, v, rfl, ⟨a, n, c, rfl, hl, hn⟩, ⟨a2, n2, c2, rfl, hl2, hn2⟩, _⟩ := h
    simp only at hl hl2
    have hlen := hl.len
    have hlen2 := hl2.len
    dsimp only
    (conv => whnf)
    refine IteP.mk (fun h => W.mk ?_) (fun h => W.mk ?_) <;> (conv => whnf)
    rotate_left
    · refine FinP.mk ?_
      have : l ≠ k := fun e => by subst e; omega
      show Value.bool false = .bool _
      rw [decide_eq_false this]
    refine LoopP.of { α := Nat, fr := fun x => [(0, .v (.slice a n c)), (1, .v (.slice a2 n2 c2)), (5, .v (I x))], H := fun _ => [], ok := fun x _ => x ≤ l.length ∧ (l = k ↔ l.drop x = k.drop x), m := fun x => l.length - x }
      0 (HeadP.of [] ⟨rfl, rfl, rfl, trivial⟩ trivial) ⟨Nat.zero_le _, Iff.rfl⟩ (fun _ => ⟨rfl, rfl⟩) (fun (x : Nat) G' hG hx => W.mk ?_)
    obtain ⟨hi, hx⟩ := hx
    replace hl := SlR.grow (G := G) (G' := G') (fun _ _ h => h) hl hG
    replace hl2 := SlR.grow (G := G) (G' := G') (fun _ _ h => h) hl2 hG
    (conv => whnf)
    refine IteP.mk (fun hlt => W.mk ?_) (fun hge => W.mk ?_) <;> (conv => whnf)
    · have hlt : x < l.length := by omega
      have hlt2 : x < k.length := by omega
      have hc := hl.el hlt
      have hc2 := hl2.el hlt2
      rw [List.drop_eq_getElem_cons hlt, List.drop_eq_getElem_cons hlt2, List.cons.injEq] at hx
      repeat' (first | (refine OblP.mk ?_ (W.mk ?_); (first | trivial | omega | (simp only [inR]; omega) | exact Nat.le_of_ble_eq_true (by rfl) | exact SlR.some (by assumption) (by omega)); (conv => whnf)) | (first | (refine RdP.at (by assumption) (by rfl) (W.mk ?_); (conv => whnf)) | (refine RdP.sub (by assumption) (by rfl) (W.mk ?_); (conv => whnf)) | (refine RdP.sub2 (by assumption) (by rfl) (W.mk ?_); (conv => whnf)) | (refine RdP.sub3 (by assumption) (by rfl) (W.mk ?_); (conv => whnf))))
      refine IteP.mk (fun h3 => W.mk ?_) (fun h3 => W.mk ?_) <;> (conv => whnf)
      · (refine OblP.mk ?_ (W.mk ?_); (first | trivial | omega | (simp only [inR]; omega) | exact Nat.le_of_ble_eq_true (by rfl) | exact SlR.some (by assumption) (by omega)); (conv => whnf))
        exact RoundP.of (x + 1) (HeadP.of [] ⟨rfl, rfl, rfl, trivial⟩ trivial) ⟨hlt, by rw [hx]; exact ⟨fun h => h.2, fun h => ⟨h3, h⟩⟩⟩ (by simp only; omega)
      · refine FinP.mk ?_
        show Value.bool false = .bool _
        rw [decide_eq_false (fun e => h3 (hx.1 e).1)]
    · refine FinP.mk ?_
      have : l = k := hx.2 (by rw [List.drop_eq_nil_of_le (by omega), List.drop_eq_nil_of_le (by omega)])
      show Value.bool true = .bool _
      rw [decide_eq_true this]
theorem spans34 : Sound Try.prog 34 id (gsca (args2 (slRd spanE) (slRd spanE) fun _ _ => True) fun x v => v = .bool (decide (x.1 = x.2))) := by
  refine comp34.gsca (Tab.nil _) (fun args G s h => ?_) (fun args G x h => ?_)
  · obtain ⟨v, w, rfl, _⟩ := h; simp
  · obtain ⟨l, k⟩ := x
    obtain ⟨u, v, rfl, ⟨a, n, c, rfl, hl, hn⟩, ⟨a2, n2, c2, rfl, hl2, hn2⟩, _⟩ := h
    simp only at hl hl2
    have hlen := hl.len
    have hlen2 := hl2.len
    dsimp only
    (conv => whnf)
    refine IteP.mk (fun h => W.mk ?_) (fun h => W.mk ?_) <;> (conv => whnf)
    rotate_left
    · refine FinP.mk ?_
      have : l ≠ k := fun e => by subst e; omega
      show Value.bool false = .bool _
      rw [decide_eq_false this]
    refine LoopP.of { α := Nat, fr := fun x => [(0, .v (.slice a n c)), (1, .v (.slice a2 n2 c2)), (5, .v (I x))], H := fun _ => [], ok := fun x _ => x ≤ l.length ∧ (l = k ↔ l.drop x = k.drop x), m := fun x => l.length - x }
      0 (HeadP.of [] ⟨rfl, rfl, rfl, trivial⟩ trivial) ⟨Nat.zero_le _, Iff.rfl⟩ (fun _ => ⟨rfl, rfl⟩) (fun (x : Nat) G' hG hx => W.mk ?_)
    obtain ⟨hi, hx⟩ := hx
    replace hl := SlR.grow (G := G) (G' := G') (fun _ _ h => h) hl hG
    replace hl2 := SlR.grow (G := G) (G' := G') (fun _ _ h => h) hl2 hG
    (conv => whnf)
    refine IteP.mk (fun hlt => W.mk ?_) (fun hge => W.mk ?_) <;> (conv => whnf)
    · have hlt : x < l.length := by omega
      have hlt2 : x < k.length := by omega
      have hc := hl.el hlt
      have hc2 := hl2.el hlt2
      rw [List.drop_eq_getElem_cons hlt, List.drop_eq_getElem_cons hlt2, List.cons.injEq] at hx
      have hsp : ∀ p q : Span, p = q ↔ p.fr = q.fr ∧ p.to = q.to := fun p q => by cases p; cases q; simp
      rw [hsp] at hx
      repeat' (first | (refine OblP.mk ?_ (W.mk ?_); (first | trivial | omega | (simp only [inR]; omega) | exact Nat.le_of_ble_eq_true (by rfl) | exact SlR.some (by assumption) (by omega)); (conv => whnf)) | (first | (refine RdP.at (by assumption) (by rfl) (W.mk ?_); (conv => whnf)) | (refine RdP.sub (by assumption) (by rfl) (W.mk ?_); (conv => whnf)) | (refine RdP.sub2 (by assumption) (by rfl) (W.mk ?_); (conv => whnf)) | (refine RdP.sub3 (by assumption) (by rfl) (W.mk ?_); (conv => whnf))))
      refine IteP.mk (fun h3 => W.mk ?_) (fun h3 => W.mk ?_) <;> (conv => whnf)
      · repeat' (first | (refine OblP.mk ?_ (W.mk ?_); (first | trivial | omega | (simp only [inR]; omega) | exact Nat.le_of_ble_eq_true (by rfl) | exact SlR.some (by assumption) (by omega)); (conv => whnf)) | (first | (refine RdP.at (by assumption) (by rfl) (W.mk ?_); (conv => whnf)) | (refine RdP.sub (by assumption) (by rfl) (W.mk ?_); (conv => whnf)) | (refine RdP.sub2 (by assumption) (by rfl) (W.mk ?_); (conv => whnf)) | (refine RdP.sub3 (by assumption) (by rfl) (W.mk ?_); (conv => whnf))))
        refine IteP.mk (fun h4 => W.mk ?_) (fun h4 => W.mk ?_) <;> (conv => whnf)
        · (refine OblP.mk ?_ (W.mk ?_); (first | trivial | omega | (simp only [inR]; omega) | exact Nat.le_of_ble_eq_true (by rfl) | exact SlR.some (by assumption) (by omega)); (conv => whnf))
          exact RoundP.of (x + 1) (HeadP.of [] ⟨rfl, rfl, rfl, trivial⟩ trivial) ⟨hlt, by rw [hx]; exact ⟨fun h => h.2, fun h => ⟨⟨h3, h4⟩, h⟩⟩⟩ (by simp only; omega)
        · refine FinP.mk ?_
          show Value.bool false = .bool _
          rw [decide_eq_false (fun e => h4 (hx.1 e).1.2)]
      · refine FinP.mk ?_
        show Value.bool false = .bool _
        rw [decide_eq_false (fun e => h3 (hx.1 e).1.1)]
    · refine FinP.mk ?_
      have : l = k := hx.2 (by rw [List.drop_eq_nil_of_le (by omega), List.drop_eq_nil_of_le (by omega)])
      show Value.bool true = .bool _
      rw [decide_eq_true this]
def chamberS : Sit := ⟨1000, [⟨400, 500⟩], 180, 60⟩
def chamberO : Off := ⟨[⟨0, 1, 60⟩, ⟨1, 2, 0⟩, ⟨0, 1, 300⟩], 400, 30⟩
theorem chamber28 : Sound Try.prog 28 id (grel (fun args _ (_ : Unit) => args = []) fun _ v G => ∃ u w, v = .tuple #[u, w] ∧ SitV G u chamberS ∧ OffV G w chamberO) := by
  refine comp28.grel (Tab.nil _) ⟨fun _ _ _ _ _ _ => rfl, fun _ _ _ _ _ h => h⟩ (fun args G s h => ?_) (fun x v G G' hg h => ?_) (fun args G x h => ?_)
  · rw [h]; simp
  · obtain ⟨u, w, h1, h2, h3⟩ := h; exact ⟨u, w, h1, sitRd.grow hg h2, offRd.grow hg h3⟩
  · rw [h]
    (conv => whnf)
    refine PubP.mk (fun a c G1 hg1 hp => W.mk ?_)
    (conv => whnf)
    refine PubP.mk (fun a2 c2 G2 hg2 hp2 => W.mk ?_)
    (conv => whnf)
    refine FinP.mk ⟨_, _, rfl, ⟨.slice a 1 c, rfl, ?_⟩, ⟨.slice a2 3 c2, rfl, ?_⟩⟩
    · exact SlV.grow hg2 (hp.slV (e := spanE) (l := [⟨400, 500⟩]) rfl rfl (by decide))
    · exact hp2.slV (e := repE) (l := [⟨0, 1, 60⟩, ⟨1, 2, 0⟩, ⟨0, 1, 300⟩]) rfl rfl (by decide)
end Go.Proofs.Ytcmhpndhloplpaa

namespace Go.Proofs.Ytcmhpndhloplpaa
open Go.Pal

set_option maxRecDepth 100000

theorem chamber_calm : Calm chamberS := fun p hp => by
  simp only [chamberS, List.mem_singleton] at hp
  subst hp
  simp only [inR]; omega
theorem chamber_fault : faultF chamberS = 0 := by decide +kernel
theorem chamber_takes : takesF chamberS = [⟨0, 180⟩, ⟨180, 400⟩, ⟨500, 680⟩, ⟨680, 860⟩, ⟨860, 1000⟩] := by decide +kernel
theorem chamber_err : rotaE chamberS chamberO = 0 := by decide +kernel
theorem chamber_rota : rotaF chamberS chamberO = [1, 0, 2, 1, 0] := by decide +kernel
theorem okU : GOk (fun args _ (_ : Unit) => args = []) := ⟨fun _ _ _ _ _ _ => rfl, fun _ _ _ _ _ h => h⟩
def tabV : Tab Try.prog := Tab.cons 12 _ takes12 body12 (Tab.cons 17 _ rota17 body17 (Tab.cons 28 _ chamber28 body28 (Tab.cons 29 _ ints29 body29 (Tab.cons 34 _ spans34 body34 tabT))))
theorem awake11 : Sound Try.prog 11 id (gsca (fun args _ (_ : Unit) => args = []) fun _ v => v = .bool true) := by
  refine comp11.gsca tabV (fun args G s h => ?_) (fun args G x h => ?_)
  · rw [h]; simp
  · rw [h]
    (conv => whnf)
    refine RelP.g okU (x := ()) rfl (Grow.refl _) (fun v G1 hg1 hq => W.mk ?_)
    obtain ⟨u, w, rfl, ⟨w1, rfl, a, n, c, rfl, hl, hn⟩, ⟨w2, rfl, a2, n2, c2, rfl, hl2, hn2⟩⟩ := hq
    (conv => whnf)
    refine RelP.g (ok1 sitRd fun s => Calm s) (x := chamberS) ⟨_, rfl, ⟨_, rfl, a, n, c, rfl, hl, hn⟩, chamber_calm⟩ (Grow.refl _) (fun v G2 hg2 hq => W.mk ?_)
    obtain ⟨w3, rfl, hq⟩ := hq
    rw [if_pos chamber_fault, chamber_takes] at hq
    rw [chamber_fault]
    obtain ⟨a3, n3, c3, rfl, hl3, hn3⟩ := hq
    (conv => whnf)
    refine RelP.g (ok2 sitRd offRd fun s _ => Calm s) (x := (chamberS, chamberO)) ⟨_, _, rfl, sitRd.grow hg2 ⟨_, rfl, a, n, c, rfl, hl, hn⟩, offRd.grow hg2 ⟨_, rfl, a2, n2, c2, rfl, hl2, hn2⟩, chamber_calm⟩ (Grow.refl _) (fun v G3 hg3 hq => W.mk ?_)
    obtain ⟨w4, rfl, hq⟩ := hq
    simp only at hq
    rw [if_pos chamber_err, chamber_rota] at hq
    dsimp only
    rw [chamber_err]
    obtain ⟨a4, n4, c4, rfl, hl4, hn4⟩ := hq
    (conv => whnf)
    refine IteP.mk (fun _ => W.mk ?_) (fun h => absurd rfl h)
    (conv => whnf)
    refine PubP.mk (fun a5 c5 G4 hg4 hp => W.mk ?_)
    (conv => whnf)
    refine ScaP.g (ok2 (slRd spanE) (slRd spanE) fun _ _ => True) (x := ([⟨0, 180⟩, ⟨180, 400⟩, ⟨500, 680⟩, ⟨680, 860⟩, ⟨860, 1000⟩], [⟨0, 180⟩, ⟨180, 400⟩, ⟨500, 680⟩, ⟨680, 860⟩, ⟨860, 1000⟩])) ⟨_, _, rfl, SlV.grow (hg3.trans hg4) ⟨a3, n3, c3, rfl, hl3, hn3⟩, hp.slV rfl rfl (by decide), trivial⟩ (fun v hv => W.mk ?_)
    have hv : v = .bool true := hv.trans (congrArg Value.bool (decide_eq_true rfl))
    subst hv
    clear hv
    (conv => whnf)
    refine ForkP.mk (fun _ => W.mk ?_) (fun h => by cases h)
    (conv => whnf)
    refine IteP.mk (fun _ => W.mk ?_) (fun h => absurd rfl h)
    (conv => whnf)
    refine PubP.mk (fun a6 c6 G5 hg5 hp6 => W.mk ?_)
    (conv => whnf)
    refine ScaP.g (ok2 (slRd intE) (slRd intE) fun _ _ => True) (x := ([1, 0, 2, 1, 0], [1, 0, 2, 1, 0])) ⟨_, _, rfl, SlV.grow (hg4.trans hg5) ⟨a4, n4, c4, rfl, hl4, hn4⟩, hp6.slV rfl rfl (by decide), trivial⟩ (fun v hv => W.mk ?_)
    have hv : v = .bool true := hv.trans (congrArg Value.bool (decide_eq_true rfl))
    subst hv
    clear hv
    (conv => whnf)
    refine ForkP.mk (fun _ => W.mk ?_) (fun h => by cases h)
    (conv => whnf)
    exact FinP.mk rfl
end Go.Proofs.Ytcmhpndhloplpaa

namespace Go.Proofs.Ytcmhpndhloplpaa
open Go.Pal

set_option maxRecDepth 100000

theorem sitting13 : Sound Try.prog 13 id (grel (args1 sitRd fun s => s.ps.length ≤ 1000) fun s v G => SitV G v s) := by
  refine comp13.grel (Tab.nil _) (ok1 _ _) (fun args G s h => ?_) (fun x v G G' hg h => sitRd.grow hg h) (fun args G s h => ?_)
  · obtain ⟨v, rfl, _⟩ := h; simp
  · obtain ⟨v, rfl, ⟨w, rfl, a, n, c, rfl, hl, hn⟩, hb⟩ := h
    have hlen := hl.len
    (conv => whnf)
    refine LoopP.of { α := Nat × Nat × List Value, fr := fun x => [(1, .c (.ptr 0 0)), (2, .c (.ptr 1 0)), (3, .c (.ptr 9 0)), (4, .v (I x.1))], H := fun x => [(0, .cells .anon [.val (I s.len), .val (.slice a n c), .val (I s.long), .val (I s.short)] 24), (1, .cells .anon [.val (I 0), .val (.slice none 0 0), .val (I 0), .val (I 0)] 32), (9, .cells .anon [.val (I s.len), .row 10 x.2.1, .val (I s.long), .val (I s.short)] 32), (10, .row none x.2.1 x.2.2 35 2)], ok := fun x _ => x.1 ≤ s.ps.length ∧ Row spanE (s.ps.take x.1) x.2.1 x.2.2, m := fun x => s.ps.length - x.1 }
      (0, 0, []) (HeadP.of [(10, none)] ⟨rfl, rfl, rfl, rfl, trivial⟩ ⟨rfl, rfl, rfl, rfl, trivial⟩) ⟨Nat.zero_le _, Row.nil⟩ (fun _ => ⟨rfl, rfl⟩) (fun x G' hG hx => W.mk ?_)
    obtain ⟨i, m, vs⟩ := x
    obtain ⟨hi, hr⟩ := hx
    dsimp only at hi hr
    dsimp only
    replace hl := SlR.grow (G := G) (G' := G') (fun _ _ h => h) hl hG
    have hm := hr.n
    simp only [List.length_take] at hm
    (conv => whnf)
    refine IteP.mk (fun hlt => W.mk ?_) (fun hge => W.mk ?_) <;> (conv => whnf)
    · have hlt : i < s.ps.length := by omega
      have hc := hl.el hlt
      repeat' (first | (refine OblP.mk ?_ (W.mk ?_); (first | trivial | omega | (simp only [inR]; omega) | exact Nat.le_of_ble_eq_true (by rfl) | exact SlR.some (by assumption) (by omega)); (conv => whnf)) | (first | (refine RdP.at (by assumption) (by rfl) (W.mk ?_); (conv => whnf)) | (refine RdP.sub (by assumption) (by rfl) (W.mk ?_); (conv => whnf)) | (refine RdP.sub2 (by assumption) (by rfl) (W.mk ?_); (conv => whnf)) | (refine RdP.sub3 (by assumption) (by rfl) (W.mk ?_); (conv => whnf))))
      have et : s.ps.take (i + 1) = s.ps.take i ++ [s.ps[i]] := List.take_succ_eq_append_getElem hlt
      exact RoundP.of (i + 1, m + 1, vs ++ [I s.ps[i].fr, I s.ps[i].to]) (HeadP.of [(10, some 33)] ⟨rfl, rfl, rfl, rfl, trivial⟩ ⟨rfl, rfl, rfl, rfl, trivial⟩) ⟨hlt, by show Row spanE (s.ps.take (i + 1)) _ _; rw [et]; exact hr.snoc _⟩ (by simp only; omega)
    · have : i = s.ps.length := by omega
      subst this
      rw [List.take_length] at hr
      refine PubP.mk (fun a1 c1 G1 hg1 hp => W.mk ?_)
      (conv => whnf)
      exact FinP.mk ⟨_, rfl, hr.pub hp (by omega)⟩
end Go.Proofs.Ytcmhpndhloplpaa

namespace Go.Proofs.Ytcmhpndhloplpaa
open Go.Pal

theorem stretch_ends {len : Int} : ∀ {l : List Span} {fr : Int}, ∀ q ∈ stretchesF len fr l, (q.fr = fr ∨ ∃ p ∈ l, p.to = q.fr) ∧ (q.to = len ∨ ∃ p ∈ l, p.fr = q.to)
  | [], fr, q, hq => by
    simp only [stretchesF] at hq
    split at hq
    · simp only [List.mem_singleton] at hq
      subst hq; exact ⟨.inl rfl, .inl rfl⟩
    · cases hq
  | p :: r, fr, q, hq => by
    simp only [stretchesF] at hq
    rcases List.mem_append.1 hq with hq | hq
    · split at hq
      · simp only [List.mem_singleton] at hq
        subst hq; exact ⟨.inl rfl, .inr ⟨p, by simp, rfl⟩⟩
      · cases hq
    · obtain ⟨h1, h2⟩ := stretch_ends q hq
      refine ⟨?_, ?_⟩
      · rcases h1 with h1 | ⟨p', hp, e⟩
        · exact .inr ⟨p, by simp, h1.symm⟩
        · exact .inr ⟨p', by simp [hp], e⟩
      · rcases h2 with h2 | ⟨p', hp, e⟩
        · exact .inl h2
        · exact .inr ⟨p', by simp [hp], e⟩
def LenOk (s : Sit) (p : Span) : Prop := 1 ≤ p.to - p.fr ∧ p.to - p.fr < s.long + s.short ∧ (s.short ≤ p.to - p.fr ∨ ((p.fr = 0 ∨ pausedF s (p.fr - 1) = true) ∧ (p.to = s.len ∨ pausedF s p.to = true)))
theorem base_len {a long : Int} : ∀ {m : Nat}, ∀ q ∈ baseF a long m, q.to - q.fr = long
  | 0, q, hq => by simp [baseF] at hq
  | m + 1, q, hq => by
    rw [baseF_succ] at hq
    rcases List.mem_append.1 hq with hq | hq
    · exact base_len (m := m) q hq
    · simp only [List.mem_singleton] at hq
      subst hq
      have e' : ((m : Int) + 1) * long = m * long + long := by rw [Int.add_mul]; omega
      simp only
      rw [e']; omega
theorem lengths_law {s : Sit} (h : validF s = true) : ∀ p ∈ takesF s, LenOk s p := by
  intro p hp
  obtain ⟨h1, h2, h3, h4⟩ := validF_iff.1 h
  obtain ⟨c1, c2⟩ := stretches_chain (fr := 0) h1 (Int.le_refl _) (by omega)
  obtain ⟨q, hq, hp⟩ := List.mem_flatMap.1 hp
  have k1 := chain_mem c1 q hq
  obtain ⟨s1, s2⟩ := stretch_ends q hq
  have hsp := spansOk_mem h1
  have hfr : q.fr = 0 ∨ pausedF s (q.fr - 1) = true := by
    rcases s1 with s1 | ⟨t, ht, e⟩
    · exact .inl s1
    · right
      have := hsp t ht
      simp only [pausedF, List.any_eq_true]
      exact ⟨t, ht, by simp only [inF, decide_eq_true_eq]; omega⟩
  have hto : q.to = s.len ∨ pausedF s q.to = true := by
    rcases s2 with s2 | ⟨t, ht, e⟩
    · exact .inl s2
    · right
      have := hsp t ht
      simp only [pausedF, List.any_eq_true]
      exact ⟨t, ht, by simp only [inF, decide_eq_true_eq]; omega⟩
  have hd : 0 ≤ (q.to - q.fr) / s.long := Int.ediv_nonneg (by omega) (by omega)
  have hmul : ((q.to - q.fr) / s.long).toNat * s.long ≤ q.to - q.fr := by
    have := Int.ediv_mul_le (q.to - q.fr) (show s.long ≠ 0 by omega)
    rwa [Int.toNat_of_nonneg hd]
  have hlt : q.to - q.fr < ((q.to - q.fr) / s.long).toNat * s.long + s.long := by
    have := Int.lt_ediv_add_one_mul_self (q.to - q.fr) (show 0 < s.long by omega)
    rw [Int.add_mul] at this
    rw [Int.toNat_of_nonneg hd]; omega
  simp only [cutS] at hp
  generalize ((q.to - q.fr) / s.long).toNat = m at hp hmul hlt
  have base : ∀ {k : Nat}, p ∈ baseF q.fr s.long k → LenOk s p := fun hb => by
    have := base_len p hb
    exact ⟨by omega, by omega, .inl (by omega)⟩
  split at hp
  · exact base hp
  · split at hp
    · rename_i hne hor
      rcases List.mem_append.1 hp with hp | hp
      · exact base hp
      · simp only [List.mem_singleton] at hp
        subst hp
        refine ⟨by simp only; omega, by simp only; omega, ?_⟩
        rcases hor with hor | hor
        · left; simp only; omega
        · right
          subst hor
          simp only [Int.natCast_zero, Int.zero_mul, Int.add_zero]
          exact ⟨hfr, hto⟩
    · rename_i hne hor
      rcases List.mem_append.1 hp with hp | hp
      · exact base hp
      · simp only [List.mem_singleton] at hp
        subst hp
        have hm : m ≠ 0 := fun e => hor (.inr e)
        have e1 : ((m - 1 : Nat) : Int) * s.long = m * s.long - s.long := by
          have : ((m - 1 : Nat) : Int) = m - 1 := by omega
          rw [this, Int.sub_mul]; omega
        have hor' : ¬ s.short ≤ q.to - (q.fr + m * s.long) := fun e => hor (.inl e)
        refine ⟨?_, ?_, .inl ?_⟩ <;> simp only <;> rw [e1] <;> omega
end Go.Proofs.Ytcmhpndhloplpaa

namespace Go.Proofs.Ytcmhpndhloplpaa
open Go.Pal

set_option maxRecDepth 100000

def tabY : Tab Try.prog := Tab.cons 10 _ fault10 body10 (Tab.cons 11 _ awake11 body11 (Tab.cons 12 _ takes12 body12 (Tab.cons 13 _ sitting13 body13 (Tab.cons 14 _ paused14 body14 tabV))))
theorem fault_valid {s : Sit} (h : faultF s = 0) : validF s = true ∧ (takesF s).length ≤ 40 := by
  unfold faultF at h
  split at h
  · rename_i hv
    split at h
    · cases h
    · exact ⟨hv, by omega⟩
  · cases h
def drawnS : GRel Sit := fun args G s => ∃ a n c, args = [.agg #[I s.len, .slice a n c, I s.long, I s.short]] ∧ SlR spanE.k spanE.R G a n c s.ps
theorem law3 : Sound Try.prog 3 id (gsca drawnS fun _ v => v = .bool true) := by
  refine comp3.gsca tabY (fun args G s h => ?_) (fun args G s h => ?_)
  · obtain ⟨a, n, c, rfl, _⟩ := h; simp
  · obtain ⟨a, n, c, rfl, hl⟩ := h
    have hlen := hl.len
    (conv => whnf)
    refine IteP.mk (fun h60 => W.mk ?_) (fun h60 => W.mk ?_) <;> (conv => whnf)
    · refine ScaP.g okU (G := G) (x := ()) rfl (fun v hv => W.mk ?_)
      subst hv
      (conv => whnf)
      refine ForkP.mk (fun _ => W.mk ?_) (fun h => by cases h)
      (conv => whnf)
      exact FinP.mk rfl
    · have hn : n ≤ 140737488355328 := by omega
      refine ScaP.g (ok1 sitRd fun _ => True) (x := s) ⟨_, rfl, ⟨_, rfl, a, n, c, rfl, hl, hn⟩, trivial⟩ (fun v hv => W.mk ?_)
      subst hv
      (conv => whnf)
      refine IteP.mk (fun hf => W.mk ?_) (fun hf => W.mk ?_) <;> (conv => whnf)
      · obtain ⟨hv, ht⟩ := fault_valid hf
        have hcalm := valid_calm hv
        have hlaw := lengths_law hv
        have hbd := takes_bd hv
        refine RelP.g (ok1 sitRd fun s => s.ps.length ≤ 1000) (x := s) ⟨_, rfl, ⟨_, rfl, a, n, c, rfl, hl, hn⟩, by omega⟩ (Grow.refl _) (fun v G1 hg1 hq => W.mk ?_)
        obtain ⟨w1, rfl, a1, n1, c1, rfl, hl1, hn1⟩ := hq
        (conv => whnf)
        refine RelP.g (ok1 sitRd fun s => Calm s) (x := s) ⟨_, rfl, ⟨_, rfl, a1, n1, c1, rfl, hl1, hn1⟩, hcalm⟩ (Grow.refl _) (fun v G2 hg2 hq => W.mk ?_)
        obtain ⟨w2, rfl, hq⟩ := hq
        rw [if_pos hf] at hq
        rw [hf]
        obtain ⟨a2, n2, c2, rfl, hl2, hn2⟩ := hq
        replace hl := SlR.grow (G := G) (G' := G2) (fun _ _ h => h) hl (hg1.trans hg2)
        (conv => whnf)
        refine IteP.mk (fun _ => W.mk ?_) (fun h => absurd rfl h)
        (conv => whnf)
        have hlen2 := hl2.len
        refine LoopP.of { α := Nat, fr := fun x => [(1, .c (.ptr 0 0)), (3, .v (.slice a2 n2 c2)), (5, .v (I x))], H := fun _ => [(0, .cells .anon [.val (I s.len), .val (.slice a n c), .val (I s.long), .val (I s.short)] 24)], ok := fun x _ => x ≤ (takesF s).length, m := fun x => (takesF s).length - x }
          0 (HeadP.of [] ⟨rfl, rfl, rfl, trivial⟩ ⟨rfl, trivial⟩) (Nat.zero_le _) (fun _ => ⟨rfl, rfl⟩) (fun (x : Nat) G' hG hx => W.mk ?_)
        replace hx : x ≤ (takesF s).length := hx
        replace hl := SlR.grow (G := G2) (G' := G') (fun _ _ h => h) hl hG
        replace hl2 := SlR.grow (G := G2) (G' := G') (fun _ _ h => h) hl2 hG
        (conv => whnf)
        refine IteP.mk (fun hlt => W.mk ?_) (fun hge => W.mk ?_) <;> (conv => whnf)
        · have hlt : x < (takesF s).length := by omega
          have hc := hl2.el hlt
          have hp := hlaw _ (List.getElem_mem hlt)
          have hb := hbd _ (List.getElem_mem hlt)
          generalize (takesF s)[x] = p at hc hp hb
          obtain ⟨hp1, hp2, hp3⟩ := hp
          obtain ⟨_, hln1, hln2, hln3⟩ := validF_iff.1 hv
          repeat' (first | (refine OblP.mk ?_ (W.mk ?_); (first | trivial | omega | (simp only [inR]; omega) | exact Nat.le_of_ble_eq_true (by rfl) | exact SlR.some (by assumption) (by omega)); (conv => whnf)) | (first | (refine RdP.at (by assumption) (by rfl) (W.mk ?_); (conv => whnf)) | (refine RdP.sub (by assumption) (by rfl) (W.mk ?_); (conv => whnf)) | (refine RdP.sub2 (by assumption) (by rfl) (W.mk ?_); (conv => whnf)) | (refine RdP.sub3 (by assumption) (by rfl) (W.mk ?_); (conv => whnf))) | (refine IteP.mk (fun h => W.mk ?_) (fun h => W.mk ?_) <;> (conv => whnf)) | (refine ForkP.mk (fun h => W.mk ?_) (fun h => W.mk ?_) <;> (conv => whnf)) | (refine ScaP.g (ok2 sitRd intRd fun s _ => validF s = true) (x := (s, _)) ⟨_, _, rfl, ⟨_, rfl, a, n, c, rfl, hl, hn⟩, rfl, hv⟩ (fun v hv2 => W.mk ?_); subst hv2; (conv => whnf)) | exact RoundP.of (x + 1) (HeadP.of [] ⟨rfl, rfl, rfl, trivial⟩ ⟨rfl, trivial⟩) hlt (by simp only; omega))
          all_goals
            exfalso
            first
              | omega
              | (rcases hp3 with hp3 | ⟨q1 | q1, q2 | q2⟩ <;> first
                | omega
                | (have hh : pausedF s p.to = false := by assumption
                   rw [hh] at q2; cases q2)
                | (have hh : pausedF s (p.fr - 1) = false := by assumption
                   rw [hh] at q1; cases q1))
        · refine ScaP.g okU (G := G) (x := ()) rfl (fun v hv => W.mk ?_)
          subst hv
          (conv => whnf)
          refine ForkP.mk (fun _ => W.mk ?_) (fun h => by cases h)
          (conv => whnf)
          exact FinP.mk rfl
      · refine ScaP.g okU (G := G) (x := ()) rfl (fun v hv => W.mk ?_)
        subst hv
        (conv => whnf)
        refine ForkP.mk (fun _ => W.mk ?_) (fun h => by cases h)
        (conv => whnf)
        exact FinP.mk rfl
end Go.Proofs.Ytcmhpndhloplpaa

namespace Go.Proofs.Ytcmhpndhloplpaa
open Go.Pal

set_option maxRecDepth 100000

abbrev ledN (b : Nat) (n : Int) : List LE := [⟨b, false, .cells [I n] 3⟩]
abbrev closN (b : Nat) : Value := .func (.func 39) #[] #[ptr b]
theorem finN {H : Nat → Option OB} {b : Nat} {n : Int} (h : H 0 = some (.cells (.named b) [.val (I n)] 3)) : finL H 0 (ledN b n) [] := ⟨.cells [I n] 3, ⟨_, h, rfl⟩, trivial, rfl, rfl⟩
def tabZ : Tab Try.prog := Tab.cons 40 _ has40 body40 tabY
def hasN (b : Nat) (n : Int) : PSpec := .st (fun args ls _ => (∃ p : Span, args = [.agg #[I p.fr, I p.to]]) ∧ ls = ledN b n) (fun args _ v ns _ => ∃ p : Span, args = [.agg #[I p.fr, I p.to]] ∧ v = .bool (hasF p.fr p.to n) ∧ ns = [])
theorem has39 (b : Nat) (n : Int) : Sound Try.prog 39 (fun a => (#[] : Array Value).toList ++ a ++ (#[ptr b] : Array Value).toList) (hasN b n) := by
  refine ⟨fun args ls v ns G G' hg h => h, fun args ls G Wd hsub hls hnd hpre => ?_⟩
  obtain ⟨⟨p, rfl⟩, rfl⟩ := hpre
  refine st_sound tabZ comp39 (svs := [.agg [.val (I p.fr), .val (I p.to)], .c (.ptr 0 0)]) (obs := [.cells (.named b) [.val (I n)] 3]) (by simp) hsub hls hnd (Nat.le_refl _) ?_ ?_ ?_
  · refine ⟨⟨[I p.fr, I p.to], rfl, relL_vals _ [I p.fr, I p.to]⟩, fun c hc => ?_, ⟨_, rfl, rfl⟩, (Nat.le_of_ble_eq_true rfl : 0 < 1), trivial⟩
    simp at hc; rcases hc with rfl | rfl <;> trivial
  · refine ⟨⟨_, rfl, relL_vals _ [I n], ?_⟩, trivial⟩
    intro c hc; simp at hc; subst hc; trivial
  · (conv => whnf)
    refine OblP.mk ⟨_, _, _, rfl⟩ (W.mk ?_)
    (conv => whnf)
    refine ForkP.mk (fun hm => W.mk ?_) (fun hm => W.mk ?_) <;> (conv => whnf) <;> refine FinS.mk ⟨_, finN rfl, p, rfl, ?_, rfl⟩ <;> rw [hm] <;> rfl

def atF (n : Int) (l : List Span) (k : Nat) : Int := match l with
  | [] => -1
  | p :: t => if hasF p.fr p.to n then (k : Int) else atF n t (k + 1)
def atS : PSpec := .st (fun args ls G => ∃ b n, (∃ (w : Value) (l : List Span), args = [w, closN b] ∧ SlV spanE G w l) ∧ ls = ledN b n) (fun args ls v ns G => ∃ (b : Nat) (n : Int) (w : Value) (l : List Span), args = [w, closN b] ∧ ls = ledN b n ∧ SlV spanE G w l ∧ v = I (atF n l 0) ∧ ns = [])
theorem at38 : Sound Try.prog 38 id atS := by
  refine ⟨fun args ls v ns G G' hg h => ?_, fun args ls G Wd hsub hls hnd hpre => ?_⟩
  · obtain ⟨b, n, w, l, h1, h0, h2, h3⟩ := h; exact ⟨b, n, w, l, h1, h0, h2.grow hg, h3⟩
  obtain ⟨b, m, ⟨w, l, rfl, ⟨a, n, c, rfl, hl, hn⟩⟩, rfl⟩ := hpre
  refine st_sound tabZ comp38 (svs := [.v (.slice a n c), .v (closN b)]) (obs := [.cells (.named b) [.val (I m)] 3]) (by simp) hsub hls hnd (Nat.le_refl _) ?_ ?_ ?_
  · exact ⟨rfl, trivial, rfl, trivial, trivial⟩
  · refine ⟨⟨_, rfl, relL_vals _ [I m], ?_⟩, trivial⟩
    intro c hc; simp at hc; subst hc; trivial
  · have hlen := hl.len
    (conv => whnf)
    refine LoopP.of { α := Nat, fr := fun x => [(0, .v (.slice a n c)), (1, .v (closN b)), (7, .v (I n)), (8, .v (I x))], H := fun _ => [(0, .cells (.named b) [.val (I m)] 3)], ok := fun x _ => x ≤ l.length ∧ atF m (l.drop x) x = atF m l 0, m := fun x => l.length - x }
      0 (HeadP.of [] ⟨rfl, rfl, rfl, rfl, trivial⟩ ⟨rfl, trivial⟩) ⟨Nat.zero_le _, rfl⟩ (fun _ => ⟨rfl, rfl⟩) (fun (x : Nat) G' hG hx => W.mk ?_)
    obtain ⟨hi, hx⟩ := hx
    replace hl := SlR.grow (G := G) (G' := G') (fun _ _ h => h) hl hG
    (conv => whnf)
    refine IteP.mk (fun hlt => W.mk ?_) (fun hge => W.mk ?_) <;> (conv => whnf)
    · have hlt : x < l.length := by omega
      have hc := hl.el hlt
      rw [List.drop_eq_getElem_cons hlt, atF] at hx
      repeat' (first | (refine OblP.mk ?_ (W.mk ?_); (first | trivial | omega | (simp only [inR]; omega) | exact Nat.le_of_ble_eq_true (by rfl) | exact SlR.some (by assumption) (by omega)); (conv => whnf)) | (first | (refine RdP.at (by assumption) (by rfl) (W.mk ?_); (conv => whnf)) | (refine RdP.sub (by assumption) (by rfl) (W.mk ?_); (conv => whnf)) | (refine RdP.sub2 (by assumption) (by rfl) (W.mk ?_); (conv => whnf)) | (refine RdP.sub3 (by assumption) (by rfl) (W.mk ?_); (conv => whnf))))
      refine CallvP.fn _ (SoundFn.of body39 (has39 b m)) (W.mk ?_)
      (conv => whnf)
      refine StP.mk ⟨[(0, ⟨b, false, .cells [I m] 3⟩)], ⟨⟨_, rfl, rfl⟩, trivial⟩, by simp, ⟨⟨l[x], rfl⟩, rfl⟩, fun v ns G3 hg3 hpost => W.mk ?_⟩
      obtain ⟨r, q1, rfl, rfl⟩ := hpost
      simp only [List.cons.injEq, and_true, Value.agg.injEq] at q1
      have hr : r = l[x] := (spanRd.uniq (G := G) (v := .agg #[I l[x].fr, I l[x].to]) rfl (congrArg Value.agg q1)).symm
      subst hr
      (conv => whnf)
      refine ForkP.mk (fun hm => W.mk ?_) (fun hm => W.mk ?_) <;> (conv => whnf)
      · refine FinS.mk ⟨_, finN rfl, _, _, _, l, rfl, rfl, ⟨a, n, c, rfl, SlR.grow (G := G') (G' := G3) (fun _ _ h => h) hl hg3, hn⟩, ?_, rfl⟩
        rw [if_pos hm] at hx
        rw [← hx]; rfl
      · (refine OblP.mk ?_ (W.mk ?_); (first | trivial | omega | (simp only [inR]; omega) | exact Nat.le_of_ble_eq_true (by rfl) | exact SlR.some (by assumption) (by omega)); (conv => whnf))
        rw [if_neg (by rw [hm]; decide)] at hx
        exact RoundP.of (x + 1) (HeadP.of [] ⟨rfl, rfl, rfl, rfl, trivial⟩ ⟨rfl, trivial⟩) ⟨hlt, hx⟩ (by simp only; omega)
    · have : x = l.length := by omega
      subst this
      rw [List.drop_length] at hx
      refine FinS.mk ⟨_, finN rfl, _, _, _, l, rfl, rfl, ⟨a, n, c, rfl, hl, hn⟩, ?_, rfl⟩
      rw [← hx]; rfl
def atE (s : Sit) (m : Int) : Int := if faultF s = 0 then (if inF m 0 (s.len - 1) = true then (if atF m (takesF s) 0 < 0 then 7 else 0) else 2) else faultF s
def atV (s : Sit) (m : Int) : Int := if atE s m = 0 then atF m (takesF s) 0 else 0
theorem at15 : Sound Try.prog 15 id (gsca (args2 sitRd intRd fun s _ => Calm s) fun x v => v = .tuple #[I (atV x.1 x.2), I (atE x.1 x.2)]) := by
  refine comp15.gsca (Tab.cons 38 _ at38 body38 tabZ) (fun args G s h => ?_) (fun args G x h => ?_)
  · obtain ⟨u, v, rfl, _⟩ := h; simp
  · obtain ⟨s, m⟩ := x
    obtain ⟨u, v, rfl, ⟨w, rfl, a, n, c, rfl, hl, hn⟩, rfl, hcalm⟩ := h
    simp only at hl hcalm
    dsimp only
    (conv => whnf)
    refine RelP.g (ok1 sitRd fun s => Calm s) (x := s) ⟨_, rfl, ⟨_, rfl, a, n, c, rfl, hl, hn⟩, hcalm⟩ (Grow.refl _) (fun v G1 hg1 hq => W.mk ?_)
    obtain ⟨w, rfl, hq⟩ := hq
    split at hq
    · rename_i he
      obtain ⟨a1, n1, c1, rfl, hl1, hn1⟩ := hq
      (conv => whnf)
      refine IteP.mk (fun h => W.mk ?_) (fun h => absurd he h)
      (conv => whnf)
      obtain ⟨hv, _⟩ := fault_valid he
      have hln := (validF_iff.1 hv).2.1
      (refine OblP.mk ?_ (W.mk ?_); (first | trivial | omega | (simp only [inR]; omega) | exact Nat.le_of_ble_eq_true (by rfl) | exact SlR.some (by assumption) (by omega)); (conv => whnf))
      refine OblP.mk ⟨_, _, _, rfl⟩ (W.mk ?_)
      (conv => whnf)
      refine ForkP.mk (fun hm => W.mk ?_) (fun hm => W.mk ?_) <;> (conv => whnf)
      · refine NameP.mk (fun b => W.mk ?_)
        (conv => whnf)
        refine StP.mk ⟨[(1, ⟨b, false, .cells [I m] 3⟩)], ⟨⟨_, rfl, rfl⟩, trivial⟩, by simp, ⟨b, m, ⟨_, takesF s, rfl, ⟨a1, n1, c1, rfl, hl1, hn1⟩⟩, rfl⟩, fun v ns G3 hg3 hpost => W.mk ?_⟩
        obtain ⟨b', m', w', l', q1, q0, q2, rfl, rfl⟩ := hpost
        simp only [List.cons.injEq, and_true] at q1
        obtain ⟨rfl, _⟩ := q1
        have hl' : l' = takesF s := q2.uniq (SlV.grow hg3 ⟨a1, n1, c1, rfl, hl1, hn1⟩)
        subst hl'
        have hmm : m' = m := by
          simp only [List.map_cons, List.map_nil, List.cons.injEq, LE.mk.injEq, LB.cells.injEq, Value.int.injEq, true_and, and_true] at q0
          omega
        subst hmm
        (conv => whnf)
        refine IteP.mk (fun hq => W.mk ?_) (fun hq => W.mk ?_) <;> (conv => whnf) <;> refine FinP.mk ?_
        · have e0 : atE s m' = 7 := by rw [atE, if_pos he, if_pos hm, if_pos hq]
          rw [atV, if_neg (by rw [e0]; decide), e0]; rfl
        · have e0 : atE s m' = 0 := by rw [atE, if_pos he, if_pos hm, if_neg hq]
          rw [atV, if_pos e0, e0]; rfl
      · refine FinP.mk ?_
        have e0 : atE s m = 2 := by rw [atE, if_pos he, if_neg (by rw [hm]; decide)]
        rw [atV, if_neg (by rw [e0]; decide), e0]; rfl
    · rename_i he
      subst hq
      (conv => whnf)
      refine IteP.mk (fun h => absurd h he) (fun h => W.mk ?_)
      (conv => whnf)
      refine FinP.mk ?_
      have e0 : atE s m = faultF s := by rw [atE, if_neg he]
      rw [atV, if_neg (by rw [e0]; exact he), e0]; rfl
end Go.Proofs.Ytcmhpndhloplpaa

namespace Go.Proofs.Ytcmhpndhloplpaa
open Go.Pal

/-- The takes stand one behind the other. -/
theorem base_chain {a long : Int} (h0 : 1 ≤ long) : ∀ {m : Nat}, chain a (baseF a long m)
  | 0 => by simp [baseF, chain]
  | m + 1 => by
    have e : baseF a long (m + 1) = ⟨a, a + long⟩ :: baseF (a + long) long m := by
      simp only [baseF, List.range_succ_eq_map, List.map_cons, List.map_map]
      congr 1
      · simp
      · apply List.map_congr_left
        intro j _
        simp only [Function.comp, Nat.succ_eq_add_one, Int.natCast_add, Int.natCast_one, Int.add_mul]
        congr 1 <;> omega
    rw [e]
    exact ⟨Int.le_refl _, by simp only; omega, base_chain h0⟩
theorem chain_low {l : List Span} {a b : Int} (hab : a ≤ b) (h : chain b l) : chain a l := by
  cases l with
  | nil => trivial
  | cons q r => exact ⟨by have := h.1; omega, h.2⟩
theorem chain_append : ∀ {l k : List Span} {lo mid : Int}, chain lo l → lo ≤ mid → (∀ p ∈ l, p.to ≤ mid) → chain mid k → chain lo (l ++ k)
  | [], k, lo, mid, _, h, _, hk => chain_low h hk
  | p :: r, k, lo, mid, hl, _, hp, hk => ⟨hl.1, hl.2.1, chain_append hl.2.2 (hp p (by simp)) (fun q hq => hp q (by simp [hq])) hk⟩
theorem cut_chain {long short : Int} {p : Span} (h0 : 1 ≤ long) (hp : p.fr < p.to) : chain p.fr (cutS long short p) := by
  have hd : 0 ≤ (p.to - p.fr) / long := Int.ediv_nonneg (by omega) (by omega)
  have hmul : ((p.to - p.fr) / long).toNat * long ≤ p.to - p.fr := by
    have := Int.ediv_mul_le (p.to - p.fr) (show long ≠ 0 by omega)
    rwa [Int.toNat_of_nonneg hd]
  simp only [cutS]
  generalize ((p.to - p.fr) / long).toNat = m at hmul
  have hn : ∀ k : Nat, 0 ≤ (k : Int) * long := fun k => Int.mul_nonneg (by omega) (by omega)
  have last : ∀ k : Nat, p.fr + k * long < p.to → chain p.fr (baseF p.fr long k ++ [⟨p.fr + k * long, p.to⟩]) := fun k hk =>
    chain_append (mid := p.fr + k * long) (base_chain h0) (by have := hn k; omega) (fun q hq => (base_bd h0 q hq).2.2) ⟨Int.le_refl _, hk, trivial⟩
  split
  · exact base_chain h0
  · split
    · rename_i hne hor
      exact last m (by omega)
    · rename_i hne hor
      have hm : m ≠ 0 := fun e => hor (.inr e)
      have e1 : ((m - 1 : Nat) : Int) * long = m * long - long := by
        have : ((m - 1 : Nat) : Int) = m - 1 := by omega
        rw [this, Int.sub_mul]; omega
      exact last (m - 1) (by rw [e1]; omega)
theorem flat_chain {long short : Int} (h0 : 1 ≤ long) : ∀ {l : List Span} {lo : Int}, chain lo l → chain lo (l.flatMap (cutS long short))
  | [], _, _ => trivial
  | p :: r, lo, h => by
    obtain ⟨h1, h2, h3⟩ := h
    rw [List.flatMap_cons]
    exact chain_append (mid := p.to) (chain_low h1 (cut_chain h0 h2)) (by omega) (fun q hq => (cut_bd h0 (by omega) q hq).2.2) (flat_chain h0 h3)
theorem takes_chain {s : Sit} (h : validF s = true) : chain 0 (takesF s) := by
  obtain ⟨h1, h2, h3, h4⟩ := validF_iff.1 h
  obtain ⟨c1, _⟩ := stretches_chain (fr := 0) h1 (Int.le_refl _) (by omega)
  exact flat_chain (by omega) c1
def sumL (l : List Span) : Int := (l.map fun p => p.to - p.fr).sum
theorem sumL_append (l k : List Span) : sumL (l ++ k) = sumL l + sumL k := by
  induction l with
  | nil => simp [sumL]
  | cons p r ih => simp only [sumL, List.cons_append, List.map_cons, List.sum_cons] at *; omega
theorem base_sum {a long : Int} : ∀ {m : Nat}, sumL (baseF a long m) = m * long
  | 0 => by simp [baseF, sumL]
  | m + 1 => by
    rw [baseF_succ, sumL_append, base_sum]
    have e : ((m + 1 : Nat) : Int) * long = m * long + long := by rw [Int.natCast_add, Int.add_mul]; omega
    have e' : ((m : Int) + 1) * long = m * long + long := by rw [Int.add_mul]; omega
    simp only [sumL, List.map_cons, List.map_nil, List.sum_cons, List.sum_nil]
    rw [e, e']; omega
theorem cut_sum {long short : Int} (p : Span) : sumL (cutS long short p) = p.to - p.fr := by
  simp only [cutS]
  generalize ((p.to - p.fr) / long).toNat = m
  have one : ∀ q : Span, sumL [q] = q.to - q.fr := fun q => by simp [sumL]
  split
  · rw [base_sum]; omega
  · split
    · rw [sumL_append, base_sum, one]; simp only; omega
    · rw [sumL_append, base_sum, one]; simp only; omega
theorem flat_sum {long short : Int} : ∀ l : List Span, sumL (l.flatMap (cutS long short)) = sumL l
  | [] => rfl
  | p :: r => by
    rw [List.flatMap_cons, sumL_append, cut_sum, flat_sum r]
    simp only [sumL, List.map_cons, List.sum_cons]
theorem stretch_sum {len : Int} : ∀ {l : List Span} {last fr : Int}, spansOk len last l = true → fr ≤ last + 1 → fr ≤ len → sumL (stretchesF len fr l) + sumL l = len - fr
  | [], last, fr, _, _, h1 => by
    simp only [stretchesF]
    split
    · simp [sumL]
    · have : fr = len := by omega
      simp [sumL, this]
  | p :: r, last, fr, h, h0, h1 => by
    simp only [spansOk, Bool.and_eq_true, goodSpan_iff] at h
    have ih := stretch_sum (len := len) (fr := p.to) h.2 (by omega) (by omega)
    simp only [stretchesF]
    rw [sumL_append]
    have e : sumL (p :: r) = (p.to - p.fr) + sumL r := by simp [sumL]
    rw [e]
    split
    · have : sumL [(⟨fr, p.fr⟩ : Span)] = p.fr - fr := by simp [sumL]
      rw [this]; omega
    · have : sumL ([] : List Span) = 0 := rfl
      rw [this]; omega
theorem takes_sum {s : Sit} (h : validF s = true) : sumL (takesF s) + sumL s.ps = s.len := by
  obtain ⟨h1, h2, h3, h4⟩ := validF_iff.1 h
  have := stretch_sum (fr := 0) h1 (by omega) (by omega)
  rw [takesF, flat_sum]; omega
def Holds (m : Int) (p : Span) : Prop := p.fr ≤ m ∧ m < p.to
theorem base_cover {a long m : Int} : ∀ {k : Nat}, a ≤ m → m < a + k * long → ∃ q ∈ baseF a long k, Holds m q
  | 0, h1, h2 => by simp at h2; omega
  | k + 1, h1, h2 => by
    have e : ((k + 1 : Nat) : Int) * long = k * long + long := by rw [Int.natCast_add, Int.add_mul]; omega
    have e' : ((k : Int) + 1) * long = k * long + long := by rw [Int.add_mul]; omega
    rw [e] at h2
    rw [baseF_succ]
    by_cases h : m < a + k * long
    · obtain ⟨q, hq, hh⟩ := base_cover h1 h
      exact ⟨q, by simp [hq], hh⟩
    · exact ⟨⟨a + k * long, a + (k + 1) * long⟩, by simp, by simp only [Holds]; rw [e']; omega⟩
theorem cut_cover {long short m : Int} {p : Span} (h : Holds m p) : ∃ q ∈ cutS long short p, Holds m q := by
  obtain ⟨h1, h2⟩ := h
  simp only [cutS]
  generalize ((p.to - p.fr) / long).toNat = k
  have last : ∀ j : Nat, ∃ q ∈ baseF p.fr long j ++ [⟨p.fr + j * long, p.to⟩], Holds m q := fun j => by
    by_cases h : m < p.fr + j * long
    · obtain ⟨q, hq, hh⟩ := base_cover h1 h
      exact ⟨q, by simp [hq], hh⟩
    · exact ⟨⟨p.fr + j * long, p.to⟩, by simp, by simp only [Holds]; omega⟩
  split
  · exact base_cover h1 (by omega)
  · split
    · exact last k
    · exact last (k - 1)
theorem stretch_cover {len m : Int} : ∀ {l : List Span} {fr : Int}, fr ≤ m → m < len → (∃ p ∈ l, Holds m p) ∨ ∃ q ∈ stretchesF len fr l, Holds m q
  | [], fr, h1, h2 => by
    right
    simp only [stretchesF]
    rw [if_pos (by omega)]
    exact ⟨⟨fr, len⟩, by simp, h1, h2⟩
  | p :: r, fr, h1, h2 => by
    by_cases ha : m < p.fr
    · right
      refine ⟨⟨fr, p.fr⟩, ?_, h1, ha⟩
      simp only [stretchesF]
      rw [if_pos (by omega)]
      simp
    · by_cases hb : m < p.to
      · exact .inl ⟨p, by simp, by simp only [Holds]; omega⟩
      · rcases stretch_cover (len := len) (l := r) (fr := p.to) (by omega) h2 with ⟨q, hq, hh⟩ | ⟨q, hq, hh⟩
        · exact .inl ⟨q, by simp [hq], hh⟩
        · exact .inr ⟨q, by simp only [stretchesF]; simp [hq], hh⟩
theorem paused_iff {s : Sit} {m : Int} : pausedF s m = true ↔ ∃ p ∈ s.ps, Holds m p := by
  simp only [pausedF, List.any_eq_true, inF, decide_eq_true_eq, Holds]
  constructor
  · rintro ⟨p, hp, h⟩; exact ⟨p, hp, by omega⟩
  · rintro ⟨p, hp, h⟩; exact ⟨p, hp, by omega⟩
theorem takes_cover {s : Sit} {m : Int} (h1 : 0 ≤ m) (h2 : m < s.len) (hp : pausedF s m = false) : ∃ q ∈ takesF s, Holds m q := by
  rcases stretch_cover (l := s.ps) h1 h2 with h | ⟨q, hq, hh⟩
  · rw [paused_iff.2 h] at hp; cases hp
  · obtain ⟨t, ht, h⟩ := cut_cover (long := s.long) (short := s.short) hh
    exact ⟨t, List.mem_flatMap.2 ⟨q, hq, ht⟩, h⟩
theorem stretch_apart {len : Int} : ∀ {l : List Span} {last fr : Int}, spansOk len last l = true → 0 ≤ fr → fr ≤ last + 1 → ∀ q ∈ stretchesF len fr l, ∀ p ∈ l, q.to ≤ p.fr ∨ p.to ≤ q.fr
  | [], _, _, _, _, _, _, _, p, hp => by cases hp
  | t :: r, last, fr, h, h0, h1, q, hq, p, hp => by
    have hs := h
    simp only [spansOk, Bool.and_eq_true, goodSpan_iff] at h
    have hch := (stretches_chain (len := len) (fr := t.to) h.2 (by omega) (by omega)).1
    have hmem := spansOk_mem h.2
    simp only [stretchesF] at hq
    rcases List.mem_append.1 hq with hq | hq
    · split at hq
      · simp only [List.mem_singleton] at hq
        subst hq
        rcases List.mem_cons.1 hp with rfl | hp
        · exact .inl (Int.le_refl _)
        · have := hmem p hp; left; simp only; omega
      · cases hq
    · rcases List.mem_cons.1 hp with rfl | hp
      · right; exact (chain_mem hch q hq).1
      · exact stretch_apart h.2 (by omega) (by omega) q hq p hp
theorem takes_apart {s : Sit} (h : validF s = true) {m : Int} (hp : pausedF s m = true) : ∀ q ∈ takesF s, ¬ Holds m q := by
  intro q hq hh
  obtain ⟨h1, h2, h3, h4⟩ := validF_iff.1 h
  obtain ⟨t, ht, hqt⟩ := List.mem_flatMap.1 hq
  obtain ⟨c1, _⟩ := stretches_chain (fr := 0) h1 (Int.le_refl _) (by omega)
  have := chain_mem c1 t ht
  have hb := cut_bd (by omega) (by omega) q hqt
  obtain ⟨p, hp, hpm⟩ := paused_iff.1 hp
  have := stretch_apart (fr := 0) h1 (Int.le_refl _) (by omega) t ht p hp
  simp only [Holds] at hh hpm
  omega
theorem hasF_iff {p : Span} {m : Int} : hasF p.fr p.to m = true ↔ Holds m p := by simp [hasF, Holds]
/-- At most one holds a moment. -/
theorem chain_one : ∀ {l : List Span} {lo m : Int}, chain lo l → (l.filter fun p => hasF p.fr p.to m).length ≤ 1
  | [], _, _, _ => by simp
  | p :: r, lo, m, h => by
    obtain ⟨h1, h2, h3⟩ := h
    by_cases hm : hasF p.fr p.to m = true
    · have : r.filter (fun p => hasF p.fr p.to m) = [] := by
        rw [List.filter_eq_nil_iff]
        intro q hq hh
        have := chain_mem h3 q hq
        rw [hasF_iff] at hm hh
        simp only [Holds] at hm hh; omega
      rw [List.filter_cons, if_pos hm, this]; simp
    · rw [List.filter_cons, if_neg hm]
      exact chain_one h3
theorem atF_none {m : Int} : ∀ {l : List Span} {k : Nat}, (∀ q ∈ l, ¬ Holds m q) → atF m l k = -1
  | [], _, _ => rfl
  | p :: r, k, h => by
    rw [atF, if_neg (by rw [hasF_iff]; exact h p (by simp))]
    exact atF_none fun q hq => h q (by simp [hq])
theorem atF_some {m : Int} : ∀ {l : List Span} {k : Nat}, (∃ q ∈ l, Holds m q) → ∃ i, ∃ h : i < l.length, Holds m l[i] ∧ atF m l k = ((k + i : Nat) : Int)
  | [], _, h => by obtain ⟨q, hq, _⟩ := h; cases hq
  | p :: r, k, h => by
    by_cases hm : Holds m p
    · exact ⟨0, by simp, hm, by rw [atF, if_pos (hasF_iff.2 hm)]; rfl⟩
    · obtain ⟨q, hq, hh⟩ := h
      have : ∃ q ∈ r, Holds m q := by
        rcases List.mem_cons.1 hq with rfl | hq
        · exact absurd hh hm
        · exact ⟨q, hq, hh⟩
      obtain ⟨i, hi, h1, h2⟩ := atF_some (k := k + 1) this
      refine ⟨i + 1, by simpa using hi, by simpa using h1, ?_⟩
      rw [atF, if_neg (by rw [hasF_iff]; exact hm), h2]
      omega
end Go.Proofs.Ytcmhpndhloplpaa

namespace Go.Proofs.Ytcmhpndhloplpaa
open Go.Pal

/-- How many hold it, and the last that does. -/
def cntF (m : Int) (l : List Span) : Nat := (l.filter fun p => hasF p.fr p.to m).length
theorem cnt_take {m : Int} {l : List Span} {i : Nat} (h : i < l.length) : cntF m (l.take (i + 1)) = cntF m (l.take i) + (if hasF l[i].fr l[i].to m = true then 1 else 0) := by
  rw [List.take_succ_eq_append_getElem h, cntF, List.filter_append, List.length_append]
  congr 1
  rw [List.filter_cons]
  split <;> simp
theorem cnt_paused {s : Sit} {m : Int} (hv : validF s = true) (hp : pausedF s m = true) : cntF m (takesF s) = 0 := by
  rw [cntF, List.length_eq_zero_iff, List.filter_eq_nil_iff]
  intro q hq hh
  exact takes_apart hv hp q hq (hasF_iff.1 hh)
theorem cnt_one {s : Sit} {m : Int} (hv : validF s = true) (h0 : 0 ≤ m) (h1 : m < s.len) (hp : pausedF s m = false) : cntF m (takesF s) = 1 := by
  have h := chain_one (m := m) (takes_chain hv)
  obtain ⟨q, hq, hh⟩ := takes_cover h0 h1 hp
  have : 0 < cntF m (takesF s) := by
    rw [cntF]
    exact List.length_pos_of_mem (List.mem_filter.2 ⟨hq, hasF_iff.2 hh⟩)
  simp only [cntF] at *
  omega
end Go.Proofs.Ytcmhpndhloplpaa

namespace Go.Proofs.Ytcmhpndhloplpaa
open Go.Pal

set_option maxRecDepth 100000

theorem chain_next {l : List Span} {lo : Int} (h : chain lo l) {i : Nat} (hi : i + 1 < l.length) : l[i].to ≤ l[i + 1].fr := by
  have q3 := (chain_drop i (by omega) h).2.2
  have := (chain_drop 0 (by simp; omega) q3).1
  simpa using this
theorem chain_le {l : List Span} {lo : Int} (h : chain lo l) {i j : Nat} (hij : i < j) (hj : j < l.length) : l[i].to ≤ l[j].fr := by
  have q3 := (chain_drop i (by omega) h).2.2
  have := (chain_drop (j - (i + 1)) (by simp; omega) q3).1
  simpa [show i + 1 + (j - (i + 1)) = j by omega] using this
theorem chain_uniq {l : List Span} {lo m : Int} (h : chain lo l) {i j : Nat} (hi : i < l.length) (hj : j < l.length) (h1 : Holds m l[i]) (h2 : Holds m l[j]) : i = j := by
  simp only [Holds] at h1 h2
  rcases Nat.lt_trichotomy i j with hlt | e | hlt
  · have := chain_le h hlt hj; omega
  · exact e
  · have := chain_le h hlt hi; omega
theorem sumL_take {l : List Span} {i : Nat} (h : i < l.length) : sumL (l.take (i + 1)) = sumL (l.take i) + (l[i].to - l[i].fr) := by
  rw [List.take_succ_eq_append_getElem h, sumL_append]; simp [sumL]
theorem sumL_bd {B : Int} : ∀ {l : List Span}, (∀ p ∈ l, 0 ≤ p.to - p.fr ∧ p.to - p.fr ≤ B) → 0 ≤ sumL l ∧ sumL l ≤ B * l.length
  | [], _ => by simp [sumL]
  | p :: r, h => by
    have h1 := sumL_bd (l := r) fun q hq => h q (by simp [hq])
    have h2 := h p (by simp)
    have e : sumL (p :: r) = (p.to - p.fr) + sumL r := by simp [sumL]
    have e2 : B * ((p :: r).length : Int) = B + B * r.length := by simp only [List.length_cons, Int.natCast_add, Int.mul_add]; omega
    rw [e, e2]; omega

def tabB2 : Tab Try.prog := Tab.cons 15 _ at15 body15 tabY
def u16Rd : Rd Nat := ⟨fun _ v x => v = .int .u16 x ∧ x < 65536, fun {_ _ _ _} h h' => by have := h.1.symm.trans h'.1; simp at this; omega, fun {_ _ _ _} _ h => h⟩
def drawnM : GRel (Sit × Nat) := fun args G x => ∃ v w, args = [v, w] ∧ drawnS [v] G x.1 ∧ u16Rd.R G w x.2
set_option maxHeartbeats 2000000 in
theorem law4 : Sound Try.prog 4 id (gsca drawnM fun _ v => v = .bool true) := by
  refine comp4.gsca tabB2 (fun args G s h => ?_) (fun args G x h => ?_)
  · obtain ⟨v, w, rfl, _⟩ := h; simp
  · obtain ⟨s, m⟩ := x
    obtain ⟨v, w, rfl, ⟨a, n, c, hv, hl⟩, rfl, hm⟩ := h
    simp only [List.cons.injEq, and_true] at hv
    subst hv
    have hlen := hl.len
    dsimp only at hl hm hlen
    dsimp only
    (conv => whnf)
    refine IteP.mk (fun h60 => W.mk ?_) (fun h60 => W.mk ?_) <;> (conv => whnf)
    · (refine ScaP.g okU (G := fun _ => none) (x := ()) rfl (fun v hv => W.mk ?_); subst hv; (conv => whnf); refine ForkP.mk (fun _ => W.mk ?_) (fun h => by cases h); (conv => whnf); exact FinP.mk rfl)
    · have hn : n ≤ 140737488355328 := by omega
      refine ScaP.g (ok1 sitRd fun _ => True) (x := s) ⟨_, rfl, ⟨_, rfl, a, n, c, rfl, hl, hn⟩, trivial⟩ (fun v hv => W.mk ?_)
      subst hv
      (conv => whnf)
      refine IteP.mk (fun hf => W.mk ?_) (fun hf => W.mk ?_) <;> (conv => whnf)
      rotate_left
      · (refine ScaP.g okU (G := fun _ => none) (x := ()) rfl (fun v hv => W.mk ?_); subst hv; (conv => whnf); refine ForkP.mk (fun _ => W.mk ?_) (fun h => by cases h); (conv => whnf); exact FinP.mk rfl)
      · obtain ⟨hv, ht⟩ := fault_valid hf
        have hcalm := valid_calm hv
        have hbd := takes_bd hv
        have hch := takes_chain hv
        have hsum := takes_sum hv
        have hps := spansOk_mem (validF_iff.1 hv).1
        obtain ⟨_, hln1, hln2, hln3⟩ := validF_iff.1 hv
        repeat' (refine OblP.mk ?_ (W.mk ?_); (first | trivial | omega | (simp only [inR]; omega) | exact Nat.le_of_ble_eq_true (by rfl) | exact SlR.some (by assumption) (by omega)); (conv => whnf))
        generalize hM : (m : Int) % s.len = M
        have hM0 : 0 ≤ M ∧ M < s.len := by
          rw [← hM]; exact ⟨Int.emod_nonneg _ (by omega), Int.emod_lt_of_pos _ (by omega)⟩
        refine RelP.g (ok1 sitRd fun s => s.ps.length ≤ 1000) (x := s) ⟨_, rfl, ⟨_, rfl, a, n, c, rfl, hl, hn⟩, by omega⟩ (Grow.refl _) (fun v G1 hg1 hq => W.mk ?_)
        obtain ⟨w1, rfl, a1, n1, c1, rfl, hl1, hn1⟩ := hq
        (conv => whnf)
        refine RelP.g (ok1 sitRd fun s => Calm s) (x := s) ⟨_, rfl, ⟨_, rfl, a1, n1, c1, rfl, hl1, hn1⟩, hcalm⟩ (Grow.refl _) (fun v G2 hg2 hq => W.mk ?_)
        obtain ⟨w2, rfl, hq⟩ := hq
        rw [if_pos hf] at hq
        rw [hf]
        obtain ⟨a2, n2, c2, rfl, hl2, hn2⟩ := hq
        replace hl := SlR.grow (G := G) (G' := G2) (fun _ _ h => h) hl (hg1.trans hg2)
        (conv => whnf)
        refine RelP.g (ok1 sitRd fun s => s.ps.length ≤ 1000) (x := s) ⟨_, rfl, ⟨_, rfl, a, n, c, rfl, hl, hn⟩, by omega⟩ (Grow.refl _) (fun v G3 hg3 hq => W.mk ?_)
        obtain ⟨w3, rfl, a3, n3, c3, rfl, hl3, hn3⟩ := hq
        replace hl := SlR.grow (G := G2) (G' := G3) (fun _ _ h => h) hl hg3
        replace hl2 := SlR.grow (G := G2) (G' := G3) (fun _ _ h => h) hl2 hg3
        (conv => whnf)
        refine ScaP.g (ok2 sitRd intRd fun s _ => Calm s) (x := (s, M)) ⟨_, _, rfl, ⟨_, rfl, a3, n3, c3, rfl, hl3, hn3⟩, rfl, hcalm⟩ (fun v hv => W.mk ?_)
        subst hv
        dsimp only
        (conv => whnf)
        refine IteP.mk (fun _ => W.mk ?_) (fun h => absurd rfl h)
        (conv => whnf)
        have hlen2 := hl2.len
        refine IteP.mk (fun h => ?_) (fun h40 => W.mk ?_)
        · exfalso; omega
        (conv => whnf)
        refine LoopP.of { α := Nat × Nat × Nat, fr := fun x => [(2, .c (.ptr 0 0)), (5, .v (I M)), (6, .v (.slice a2 n2 c2)), (8, .v (I (atV s M))), (9, .v (I (atE s M))), (10, .v (I x.2.1)), (11, .v (I x.2.2)), (12, .v (I (sumL ((takesF s).take x.1)))), (13, .v (I x.1))], H := fun _ => [(0, .cells .anon [.val (I s.len), .val (.slice a n c), .val (I s.long), .val (I s.short)] 24)], ok := fun x _ => x.1 ≤ (takesF s).length ∧ x.2.1 = cntF M ((takesF s).take x.1) ∧ x.2.1 ≤ x.1 ∧ ∀ j (h : j < (takesF s).length), j < x.1 → Holds M (takesF s)[j] → x.2.2 = j, m := fun x => (takesF s).length - x.1 }
          (0, 0, 0) (HeadP.of [] ⟨rfl, rfl, rfl, rfl, rfl, rfl, rfl, rfl, rfl, trivial⟩ ⟨rfl, trivial⟩) ⟨Nat.zero_le _, rfl, Nat.le_refl _, fun j _ h => absurd h (Nat.not_lt_zero _)⟩ (fun _ => ⟨rfl, rfl⟩) (fun x G' hG hx => W.mk ?_)
        obtain ⟨i, cnt, wh⟩ := x
        obtain ⟨hi, hcnt, hci, hwh⟩ := hx
        dsimp only at hi hcnt hci hwh
        dsimp only
        replace hl := SlR.grow (G := G3) (G' := G') (fun _ _ h => h) hl hG
        replace hl2 := SlR.grow (G := G3) (G' := G') (fun _ _ h => h) hl2 hG
        have hsb := sumL_bd (B := 36000) (l := (takesF s).take i) fun p hp => by have := hbd p (List.take_subset _ _ hp); omega
        have hli : ((takesF s).take i).length = i := by simp; omega
        rw [hli] at hsb
        (conv => whnf)
        refine IteP.mk (fun hlt => W.mk ?_) (fun hge => W.mk ?_) <;> (conv => whnf)
        · have hlt : i < (takesF s).length := by omega
          have hc := hl2.el hlt
          have hb := hbd _ (List.getElem_mem hlt)
          have hch1 := chain_drop i hlt hch
          have hprev : ∀ h : 0 < i, (takesF s)[i - 1].to ≤ (takesF s)[i].fr := fun h => chain_le hch (by omega) hlt
          have hcp : ∀ h : 0 < i, CellsAt G' (ab a2) (ao a2 + ((i : Int) - 1).toNat * spanE.k) (spanE.f (takesF s)[i - 1]) := fun h => by
            rw [show ((i : Int) - 1).toNat = i - 1 by omega]; exact hl2.el (by omega)
          have hs1 := sumL_take hlt
          have hc1 := cnt_take (m := M) hlt
          have hone : ∀ j (h : j < (takesF s).length), j < i → Holds M (takesF s)[j] → ¬ Holds M (takesF s)[i] := fun j h h1 h2 h3 => by
            have := chain_uniq hch h hlt h2 h3; omega
          by_cases hi0 : 0 < i
          · have hcp := hcp hi0
            have hprev := hprev hi0
            generalize (takesF s)[i - 1] = q at hcp hprev
            repeat' (first | (refine IteP.mk (fun _ => W.mk ?_) (fun _ => W.mk ?_) <;> first | (exfalso; omega) | (conv => whnf)) | (refine OblP.mk ?_ (W.mk ?_); (first | trivial | omega | (simp only [inR]; omega) | exact Nat.le_of_ble_eq_true (by rfl) | exact SlR.some (by assumption) (by omega)); (conv => whnf)) | (first | (refine RdP.at (by assumption) (by rfl) (W.mk ?_); (conv => whnf)) | (refine RdP.sub (by assumption) (by rfl) (W.mk ?_); (conv => whnf)) | (refine RdP.sub2 (by assumption) (by rfl) (W.mk ?_); (conv => whnf)) | (refine RdP.sub3 (by assumption) (by rfl) (W.mk ?_); (conv => whnf))))
            all_goals first
              | (have hm : Holds M (takesF s)[i] := ⟨by omega, by omega⟩
                 refine RoundP.of (i + 1, cnt + 1, i) (HeadP.of [] ⟨rfl, rfl, rfl, rfl, rfl, rfl, rfl, congrArg (fun z => SV.v (I z)) hs1, rfl, trivial⟩ ⟨rfl, trivial⟩) ⟨hlt, by show cnt + 1 = _; rw [hc1, if_pos (hasF_iff.2 hm), ← hcnt], by simp only; omega, fun j h h1 h2 => chain_uniq hch hlt h hm h2⟩ (by simp only; omega))
              | (have hm : ¬ Holds M (takesF s)[i] := fun h => by simp only [Holds] at h; omega
                 refine RoundP.of (i + 1, cnt, wh) (HeadP.of [] ⟨rfl, rfl, rfl, rfl, rfl, rfl, rfl, congrArg (fun z => SV.v (I z)) hs1, rfl, trivial⟩ ⟨rfl, trivial⟩) ⟨hlt, by show cnt = _; rw [hc1, if_neg (by rw [hasF_iff]; exact hm), ← hcnt]; rfl, by simp only; omega, fun j h h1 h2 => ?_⟩ (by simp only; omega)
                 by_cases hji : j = i
                 · subst hji; exact absurd h2 hm
                 · exact hwh j h (by simp only at h1; omega) h2)
          · clear hcp hprev
            repeat' (first | (refine IteP.mk (fun _ => W.mk ?_) (fun _ => W.mk ?_) <;> first | (exfalso; omega) | (conv => whnf)) | (refine OblP.mk ?_ (W.mk ?_); (first | trivial | omega | (simp only [inR]; omega) | exact Nat.le_of_ble_eq_true (by rfl) | exact SlR.some (by assumption) (by omega)); (conv => whnf)) | (first | (refine RdP.at (by assumption) (by rfl) (W.mk ?_); (conv => whnf)) | (refine RdP.sub (by assumption) (by rfl) (W.mk ?_); (conv => whnf)) | (refine RdP.sub2 (by assumption) (by rfl) (W.mk ?_); (conv => whnf)) | (refine RdP.sub3 (by assumption) (by rfl) (W.mk ?_); (conv => whnf))))
            all_goals first
              | (have hm : Holds M (takesF s)[i] := ⟨by omega, by omega⟩
                 refine RoundP.of (i + 1, cnt + 1, i) (HeadP.of [] ⟨rfl, rfl, rfl, rfl, rfl, rfl, rfl, congrArg (fun z => SV.v (I z)) hs1, rfl, trivial⟩ ⟨rfl, trivial⟩) ⟨hlt, by show cnt + 1 = _; rw [hc1, if_pos (hasF_iff.2 hm), ← hcnt], by simp only; omega, fun j h h1 h2 => chain_uniq hch hlt h hm h2⟩ (by simp only; omega))
              | (have hm : ¬ Holds M (takesF s)[i] := fun h => by simp only [Holds] at h; omega
                 refine RoundP.of (i + 1, cnt, wh) (HeadP.of [] ⟨rfl, rfl, rfl, rfl, rfl, rfl, rfl, congrArg (fun z => SV.v (I z)) hs1, rfl, trivial⟩ ⟨rfl, trivial⟩) ⟨hlt, by show cnt = _; rw [hc1, if_neg (by rw [hasF_iff]; exact hm), ← hcnt]; rfl, by simp only; omega, fun j h h1 h2 => ?_⟩ (by simp only; omega)
                 by_cases hji : j = i
                 · subst hji; exact absurd h2 hm
                 · exact hwh j h (by simp only at h1; omega) h2)
        · have : i = (takesF s).length := by omega
          subst this
          rw [List.take_length] at hcnt hsb
          refine LoopP.of { α := Nat, fr := fun x => [(2, .c (.ptr 0 0)), (5, .v (I M)), (8, .v (I (atV s M))), (9, .v (I (atE s M))), (10, .v (I cnt)), (11, .v (I wh)), (12, .v (I (sumL (takesF s) + sumL (s.ps.take x)))), (14, .v (I x))], H := fun _ => [(0, .cells .anon [.val (I s.len), .val (.slice a n c), .val (I s.long), .val (I s.short)] 24)], ok := fun x _ => x ≤ s.ps.length, m := fun x => s.ps.length - x }
            0 (HeadP.of [] ⟨rfl, rfl, rfl, rfl, rfl, rfl, ?_, rfl, trivial⟩ ⟨rfl, trivial⟩) (Nat.zero_le _) (fun _ => ⟨rfl, rfl⟩) (fun (x : Nat) G2 hG2 hx => W.mk ?_)
          · show SV.v (I (sumL (takesF s) + 0)) = SV.v (I (sumL ((takesF s).take (takesF s).length)))
            rw [List.take_length, Int.add_zero]
          replace hx : x ≤ s.ps.length := hx
          replace hl := SlR.grow (G := G') (G' := G2) (fun _ _ h => h) hl hG2
          have hsb2 := sumL_bd (B := 36000) (l := s.ps.take x) fun p hp => by have := hps p (List.take_subset _ _ hp); omega
          have hli2 : (s.ps.take x).length = x := by simp; omega
          rw [hli2] at hsb2
          dsimp only
          (conv => whnf)
          refine IteP.mk (fun hlt => W.mk ?_) (fun hge2 => W.mk ?_) <;> (conv => whnf)
          · have hlt : x < s.ps.length := by omega
            have hc := hl.el hlt
            have hb := hps _ (List.getElem_mem hlt)
            have hs1 := sumL_take hlt
            repeat' (first | (refine OblP.mk ?_ (W.mk ?_); (first | trivial | omega | (simp only [inR]; omega) | exact Nat.le_of_ble_eq_true (by rfl) | exact SlR.some (by assumption) (by omega)); (conv => whnf)) | (first | (refine RdP.at (by assumption) (by rfl) (W.mk ?_); (conv => whnf)) | (refine RdP.sub (by assumption) (by rfl) (W.mk ?_); (conv => whnf)) | (refine RdP.sub2 (by assumption) (by rfl) (W.mk ?_); (conv => whnf)) | (refine RdP.sub3 (by assumption) (by rfl) (W.mk ?_); (conv => whnf))))
            refine RoundP.of (x + 1) (HeadP.of [] ⟨rfl, rfl, rfl, rfl, rfl, rfl, ?_, rfl, trivial⟩ ⟨rfl, trivial⟩) hlt (by simp only; omega)
            show SV.v (I (sumL (takesF s) + sumL (s.ps.take (x + 1)))) = SV.v (I _)
            rw [hs1, Int.add_assoc]
          · have : x = s.ps.length := by omega
            subst this
            rw [List.take_length, hsum]
            refine IteP.mk (fun h => W.mk ?_) (fun h => absurd rfl h)
            (conv => whnf)
            refine ScaP.g (ok2 sitRd intRd fun s _ => validF s = true) (x := (s, M)) ⟨_, _, rfl, ⟨_, rfl, a, n, c, rfl, hl, hn⟩, rfl, hv⟩ (fun v hv2 => W.mk ?_)
            subst hv2
            (conv => whnf)
            refine ForkP.mk (fun hp => W.mk ?_) (fun hp => W.mk ?_) <;> (conv => whnf)
            · have hp : pausedF s M = true := hp
              have h0 : cnt = 0 := by rw [hcnt]; exact cnt_paused hv hp
              have h7 : atE s M = 7 := by
                rw [atE, if_pos hf, if_pos (by simp only [inF, decide_eq_true_eq]; omega), atF_none (takes_apart hv hp)]; rfl
              refine IteP.mk (fun _ => W.mk ?_) (fun h => absurd h (by omega))
              (conv => whnf)
              rw [h7]
              refine IteP.mk (fun _ => W.mk ?_) (fun h => absurd rfl h)
              (conv => whnf)
              (refine ScaP.g okU (G := fun _ => none) (x := ()) rfl (fun v hv => W.mk ?_); subst hv; (conv => whnf); refine ForkP.mk (fun _ => W.mk ?_) (fun h => by cases h); (conv => whnf); exact FinP.mk rfl)
            · have hp : pausedF s M = false := hp
              have h0 : cnt = 1 := by rw [hcnt]; exact cnt_one hv hM0.1 hM0.2 hp
              obtain ⟨j, hj, hh, he⟩ := atF_some (m := M) (k := 0) (takes_cover hM0.1 hM0.2 hp)
              have h7 : atE s M = 0 := by
                rw [atE, if_pos hf, if_pos (by simp only [inF, decide_eq_true_eq]; omega), he, if_neg (by omega)]
              have h8 : atV s M = j := by rw [atV, if_pos h7, he]; omega
              have h9 : wh = j := hwh j hj hj hh
              refine IteP.mk (fun _ => W.mk ?_) (fun h => absurd h (by omega))
              (conv => whnf)
              rw [h7]
              refine IteP.mk (fun _ => W.mk ?_) (fun h => absurd rfl h)
              (conv => whnf)
              refine IteP.mk (fun _ => W.mk ?_) (fun h => absurd h (by omega))
              (conv => whnf)
              (refine ScaP.g okU (G := fun _ => none) (x := ()) rfl (fun v hv => W.mk ?_); subst hv; (conv => whnf); refine ForkP.mk (fun _ => W.mk ?_) (fun h => by cases h); (conv => whnf); exact FinP.mk rfl)
end Go.Proofs.Ytcmhpndhloplpaa

namespace Go.Proofs.Ytcmhpndhloplpaa
open Go.Pal

set_option maxRecDepth 100000

/-- Slices of any length. -/
def SlU {α : Type} (e : El α) (G : Hp) (v : Value) (l : List α) : Prop := ∃ a n c, v = .slice a n c ∧ SlR e.k e.R G a n c l
theorem SlU.uniq {α : Type} {e : El α} {G : Hp} {v : Value} {x y : List α} (h : SlU e G v x) (h' : SlU e G v y) : x = y := by
  obtain ⟨a, n, c, rfl, h⟩ := h
  obtain ⟨a', n', c', e', h'⟩ := h'
  cases e'
  exact h.uniq (fun cs x y h1 h2 => e.inj (h1.symm.trans h2)) h'
theorem SlU.grow {α : Type} {e : El α} {G G' : Hp} {v : Value} {x : List α} (hg : Grow G G') (h : SlU e G v x) : SlU e G' v x := by
  obtain ⟨a, n, c, rfl, h⟩ := h
  exact ⟨a, n, c, rfl, SlR.grow (G := G) (G' := G') (fun _ _ h => h) h hg⟩
def slU {α : Type} (e : El α) : Rd (List α) := ⟨SlU e, fun h h' => h.uniq h', fun hg h => h.grow hg⟩
theorem SlU.v {α : Type} {e : El α} {G : Hp} {v : Value} {x : List α} (h : SlU e G v x) (hb : x.length ≤ 140737488355328) : SlV e G v x := by
  obtain ⟨a, n, c, rfl, h⟩ := h
  exact ⟨a, n, c, rfl, h, by rw [← h.len]; exact hb⟩
theorem SlV.u {α : Type} {e : El α} {G : Hp} {v : Value} {x : List α} (h : SlV e G v x) : SlU e G v x := by
  obtain ⟨a, n, c, rfl, h, _⟩ := h; exact ⟨a, n, c, rfl, h⟩
def SitU (G : Hp) (v : Value) (s : Sit) : Prop := ∃ w, v = .agg #[I s.len, w, I s.long, I s.short] ∧ SlU spanE G w s.ps
def sitU : Rd Sit := ⟨SitU, fun {_ _ x y} ⟨w, h, h1⟩ ⟨w', h', h1'⟩ => by
    subst h; simp at h'; obtain ⟨e1, e2, e3, e4⟩ := h'; subst e2; have := h1.uniq h1'; cases x; cases y; simp_all, fun hg ⟨w, h, h1⟩ => ⟨w, h, h1.grow hg⟩⟩
def OffU (G : Hp) (v : Value) (s : Off) : Prop := ∃ w, v = .agg #[w, I s.due, I s.delay] ∧ SlU repE G w s.crew
def offU : Rd Off := ⟨OffU, fun {_ _ x y} ⟨w, h, h1⟩ ⟨w', h', h1'⟩ => by
    subst h; simp at h'; obtain ⟨e1, e2, e3⟩ := h'; subst e1; have := h1.uniq h1'; cases x; cases y; simp_all, fun hg ⟨w, h, h1⟩ => ⟨w, h, h1.grow hg⟩⟩

def thinF (s : Sit) (o : Off) : Bool := decide (s.ps.length ≤ 60) && decide (o.crew.length ≤ 8)
theorem thin41 : Sound Try.prog 41 id (gsca (args2 sitU offU fun _ _ => True) fun x v => v = .bool (thinF x.1 x.2)) := by
  refine comp41.gsca (Tab.nil _) (fun args G s h => ?_) (fun args G x h => ?_)
  · obtain ⟨v, w, rfl, _⟩ := h; simp
  · obtain ⟨s, o⟩ := x
    obtain ⟨u, v, rfl, ⟨w1, rfl, a, n, c, rfl, hl⟩, ⟨w2, rfl, a2, n2, c2, rfl, hl2⟩, _⟩ := h
    have e1 := hl.len
    have e2 := hl2.len
    dsimp only at e1 e2
    dsimp only
    (conv => whnf)
    repeat' (first | (refine IteP.mk (fun _ => W.mk ?_) (fun _ => W.mk ?_) <;> (conv => whnf)) | (refine OblP.mk ?_ (W.mk ?_); (first | trivial | omega | (simp only [inR]; omega) | exact Nat.le_of_ble_eq_true (by rfl) | exact SlR.some (by assumption) (by omega)); (conv => whnf)) | (refine ForkP.mk (fun _ => W.mk ?_) (fun _ => W.mk ?_) <;> (conv => whnf)) | (refine RdP.at (by assumption) (by rfl) (W.mk ?_); (conv => whnf)) | (refine RdP.sub (by assumption) (by rfl) (W.mk ?_); (conv => whnf)) | (refine RdP.sub2 (by assumption) (by rfl) (W.mk ?_); (conv => whnf)) | (refine RdP.sub3 (by assumption) (by rfl) (W.mk ?_); (conv => whnf)) | (refine FinP.mk ?_))
    all_goals (refine congrArg Value.bool ?_; simp [thinF]; omega)
theorem right23 : Sound Try.prog 23 id (gsca (args1 offRd fun _ => True) fun o v => v = .bool (validO o)) := by
  refine comp23.gsca tabA (fun args G s h => ?_) (fun args G o h => ?_)
  · obtain ⟨v, rfl, _⟩ := h; simp
  · obtain ⟨v, rfl, ⟨w, rfl, a, n, c, rfl, hl, hn⟩, _⟩ := h
    have hlen := hl.len
    (conv => whnf)
    refine LoopP.of { α := Nat, fr := fun x => [(1, .c (.ptr 0 0)), (3, .v (I x))], H := fun _ => [(0, .cells .anon [.val (.slice a n c), .val (I o.due), .val (I o.delay)] 45)], ok := fun x _ => x ≤ o.crew.length ∧ o.crew.all fineR = (o.crew.drop x).all fineR, m := fun x => o.crew.length - x }
      0 (HeadP.of [] ⟨rfl, rfl, trivial⟩ ⟨rfl, trivial⟩) ⟨Nat.zero_le _, rfl⟩ (fun _ => ⟨rfl, rfl⟩) (fun (x : Nat) G' hG hx => W.mk ?_)
    obtain ⟨hi, hx⟩ := hx
    replace hl := SlR.grow (G := G) (G' := G') (fun _ _ h => h) hl hG
    (conv => whnf)
    refine IteP.mk (fun hlt => W.mk ?_) (fun hge => W.mk ?_) <;> (conv => whnf)
    · have hlt : x < o.crew.length := by omega
      have hc := hl.el hlt
      rw [List.drop_eq_getElem_cons hlt, List.all_cons] at hx
      generalize o.crew[x] = r at hc hx
      repeat' (first | (refine IteP.mk (fun _ => W.mk ?_) (fun _ => W.mk ?_) <;> (conv => whnf)) | (refine OblP.mk ⟨_, _, _, rfl⟩ (W.mk ?_); (conv => whnf)) | (refine OblP.mk ?_ (W.mk ?_); (first | trivial | omega | (simp only [inR]; omega) | exact Nat.le_of_ble_eq_true (by rfl) | exact SlR.some (by assumption) (by omega)); (conv => whnf)) | (first | (refine RdP.at (by assumption) (by rfl) (W.mk ?_); (conv => whnf)) | (refine RdP.sub (by assumption) (by rfl) (W.mk ?_); (conv => whnf)) | (refine RdP.sub2 (by assumption) (by rfl) (W.mk ?_); (conv => whnf)) | (refine RdP.sub3 (by assumption) (by rfl) (W.mk ?_); (conv => whnf))) | (refine ForkP.mk (fun hf => W.mk ?_) (fun hf => W.mk ?_) <;> (conv => whnf)))
      all_goals first
        | (refine FinP.mk ?_
           have hb : fineR r = false := by simp only [fineR, Bool.and_eq_false_iff, decide_eq_false_iff_not]; first | (left; omega) | (right; assumption)
           refine congrArg Value.bool ?_
           rw [validO, hx, hb]; simp)
        | (have hb : fineR r = true := by simp only [fineR, Bool.and_eq_true, decide_eq_true_eq]; exact ⟨by omega, by assumption⟩
           exact RoundP.of (x + 1) (HeadP.of [] ⟨rfl, rfl, trivial⟩ ⟨rfl, trivial⟩) ⟨hlt, by rw [hx, hb, Bool.true_and]⟩ (by simp only; omega))
    · have : x = o.crew.length := by omega
      subst this
      simp only [List.drop_length, List.all_nil] at hx
      repeat' (first | (refine OblP.mk ⟨_, _, _, rfl⟩ (W.mk ?_); (conv => whnf)) | (refine ForkP.mk (fun _ => W.mk ?_) (fun _ => W.mk ?_) <;> (conv => whnf)) | (refine FinP.mk ?_))
      all_goals (refine congrArg Value.bool ?_; simp only [validO, hx]; simp_all)
theorem fault42 : Sound Try.prog 42 id (gsca (args2 sitRd offRd fun _ _ => True) fun x v => v = I (errW x.1 x.2)) := by
  refine comp42.gsca (Tab.cons 23 _ right23 body23 (Tab.cons 10 _ fault10 body10 (Tab.nil _))) (fun args G s h => ?_) (fun args G x h => ?_)
  · obtain ⟨v, w, rfl, _⟩ := h; simp
  · obtain ⟨s, o⟩ := x
    obtain ⟨u, v, rfl, ⟨w1, rfl, a, n, c, rfl, hl, hn⟩, ⟨w2, rfl, a2, n2, c2, rfl, hl2, hn2⟩, _⟩ := h
    dsimp only at hl hl2
    dsimp only
    (conv => whnf)
    refine ScaP.g (ok1 sitRd fun _ => True) (x := s) ⟨_, rfl, ⟨_, rfl, a, n, c, rfl, hl, hn⟩, trivial⟩ (fun v hv => W.mk ?_)
    subst hv
    (conv => whnf)
    refine IteP.mk (fun hf => W.mk ?_) (fun hf => W.mk ?_) <;> (conv => whnf)
    · refine ScaP.g (ok1 offRd fun _ => True) (x := o) ⟨_, rfl, ⟨_, rfl, a2, n2, c2, rfl, hl2, hn2⟩, trivial⟩ (fun v hv => W.mk ?_)
      subst hv
      (conv => whnf)
      refine ForkP.mk (fun h => W.mk ?_) (fun h => W.mk ?_) <;> (conv => whnf) <;> refine FinP.mk ?_
      · show I 0 = I (errW s o); rw [errW, if_pos hf, if_pos h]
      · show I 1 = I (errW s o); rw [errW, if_pos hf, if_neg (by rw [h]; decide)]
    · refine FinP.mk ?_
      show I _ = I (errW s o); rw [errW, if_neg hf]
def readyF (s : Sit) (o : Off) : Bool := thinF s o && decide (errW s o = 0)
theorem ready16 : Sound Try.prog 16 id (gsca (args2 sitU offU fun _ _ => True) fun x v => v = .bool (readyF x.1 x.2)) := by
  refine comp16.gsca (Tab.cons 42 _ fault42 body42 (Tab.cons 41 _ thin41 body41 (Tab.nil _))) (fun args G s h => ?_) (fun args G x h => ?_)
  · obtain ⟨v, w, rfl, _⟩ := h; simp
  · obtain ⟨s, o⟩ := x
    obtain ⟨u, v, rfl, ⟨w1, rfl, a, n, c, rfl, hl⟩, ⟨w2, rfl, a2, n2, c2, rfl, hl2⟩, _⟩ := h
    have e1 := hl.len
    have e2 := hl2.len
    dsimp only at hl hl2 e1 e2
    dsimp only
    (conv => whnf)
    refine ScaP.g (ok2 sitU offU fun _ _ => True) (x := (s, o)) ⟨_, _, rfl, ⟨_, rfl, a, n, c, rfl, hl⟩, ⟨_, rfl, a2, n2, c2, rfl, hl2⟩, trivial⟩ (fun v hv => W.mk ?_)
    subst hv
    (conv => whnf)
    refine ForkP.mk (fun h => W.mk ?_) (fun h => W.mk ?_) <;> (conv => whnf)
    · have hb : n ≤ 60 ∧ n2 ≤ 8 := by simp [thinF] at h; omega
      refine ScaP.g (ok2 sitRd offRd fun _ _ => True) (x := (s, o)) ⟨_, _, rfl, ⟨_, rfl, a, n, c, rfl, hl, by omega⟩, ⟨_, rfl, a2, n2, c2, rfl, hl2, by omega⟩, trivial⟩ (fun v hv => W.mk ?_)
      subst hv
      (conv => whnf)
      refine IteP.mk (fun hf => W.mk ?_) (fun hf => W.mk ?_) <;> (conv => whnf) <;> refine FinP.mk ?_ <;> refine congrArg Value.bool ?_ <;> simp only at hf <;> simp [readyF, h, hf]
    · refine FinP.mk ?_
      refine congrArg Value.bool ?_
      simp only at h
      simp [readyF, h]

theorem office18 : Sound Try.prog 18 id (grel (args1 offRd fun o => o.crew.length ≤ 1000) fun o v G => OffV G v o) := by
  refine comp18.grel (Tab.nil _) (ok1 _ _) (fun args G s h => ?_) (fun x v G G' hg h => offRd.grow hg h) (fun args G o h => ?_)
  · obtain ⟨v, rfl, _⟩ := h; simp
  · obtain ⟨v, rfl, ⟨w, rfl, a, n, c, rfl, hl, hn⟩, hb⟩ := h
    have hlen := hl.len
    (conv => whnf)
    refine LoopP.of { α := Nat × Nat × List Value, fr := fun x => [(1, .c (.ptr 0 0)), (2, .c (.ptr 1 0)), (3, .c (.ptr 7 0)), (4, .v (I x.1))], H := fun x => [(0, .cells .anon [.val (.slice a n c), .val (I o.due), .val (I o.delay)] 45), (1, .cells .anon [.val (.slice none 0 0), .val (I 0), .val (I 0)] 52), (7, .cells .anon [.row 8 x.2.1, .val (I o.due), .val (I o.delay)] 52), (8, .row none x.2.1 x.2.2 99 3)], ok := fun x _ => x.1 ≤ o.crew.length ∧ Row repE (o.crew.take x.1) x.2.1 x.2.2, m := fun x => o.crew.length - x.1 }
      (0, 0, []) (HeadP.of [(8, none)] ⟨rfl, rfl, rfl, rfl, trivial⟩ ⟨rfl, rfl, rfl, rfl, trivial⟩) ⟨Nat.zero_le _, Row.nil⟩ (fun _ => ⟨rfl, rfl⟩) (fun x G' hG hx => W.mk ?_)
    obtain ⟨i, m, vs⟩ := x
    obtain ⟨hi, hr⟩ := hx
    dsimp only at hi hr
    dsimp only
    replace hl := SlR.grow (G := G) (G' := G') (fun _ _ h => h) hl hG
    have hm := hr.n
    simp only [List.length_take] at hm
    (conv => whnf)
    refine IteP.mk (fun hlt => W.mk ?_) (fun hge => W.mk ?_) <;> (conv => whnf)
    · have hlt : i < o.crew.length := by omega
      have hc := hl.el hlt
      repeat' (first | (refine OblP.mk ?_ (W.mk ?_); (first | trivial | omega | (simp only [inR]; omega) | exact Nat.le_of_ble_eq_true (by rfl) | exact SlR.some (by assumption) (by omega)); (conv => whnf)) | (first | (refine RdP.at (by assumption) (by rfl) (W.mk ?_); (conv => whnf)) | (refine RdP.sub (by assumption) (by rfl) (W.mk ?_); (conv => whnf)) | (refine RdP.sub2 (by assumption) (by rfl) (W.mk ?_); (conv => whnf)) | (refine RdP.sub3 (by assumption) (by rfl) (W.mk ?_); (conv => whnf))))
      have et : o.crew.take (i + 1) = o.crew.take i ++ [o.crew[i]] := List.take_succ_eq_append_getElem hlt
      exact RoundP.of (i + 1, m + 1, vs ++ [I o.crew[i].lo, I o.crew[i].hi, I o.crew[i].rest]) (HeadP.of [(8, some 35)] ⟨rfl, rfl, rfl, rfl, trivial⟩ ⟨rfl, rfl, rfl, rfl, trivial⟩) ⟨hlt, by show Row repE (o.crew.take (i + 1)) _ _; rw [et]; exact hr.snoc _⟩ (by simp only; omega)
    · have : i = o.crew.length := by omega
      subst this
      rw [List.take_length] at hr
      refine PubP.mk (fun a1 c1 G1 hg1 hp => W.mk ?_)
      (conv => whnf)
      exact FinP.mk ⟨_, rfl, hr.pub hp (by omega)⟩
theorem list21 : Sound Try.prog 21 id (grel (args1 (slRd intE) fun l => l.length ≤ 8796093022207) fun l v G => SlV intE G v l) := by
  refine comp21.grel (Tab.nil _) (ok1 _ _) (fun args G s h => ?_) (fun x v G G' hg h => h.grow hg) (fun args G l h => ?_)
  · obtain ⟨v, rfl, _⟩ := h; simp
  · obtain ⟨v, rfl, ⟨a, n, c, rfl, hl, hn⟩, hb⟩ := h
    have hlen := hl.len
    obtain ⟨q1, q2, q3⟩ := hl.all
    (conv => whnf)
    refine OblP.mk (fun h => hl.some h) (W.mk ?_); (conv => whnf)
    refine RdP.at q1 q2 (W.mk ?_); (conv => whnf)
    refine OblP.mk q3 (W.mk ?_); (conv => whnf)
    refine OblP.mk (by omega) (W.mk ?_); (conv => whnf)
    refine PubP.mk (fun a1 c1 G1 hg1 hp => W.mk ?_)
    (conv => whnf)
    refine FinP.mk ?_
    exact (Row.of_all l hlen).pub hp hn
def cutF (s : Sit) (m : Int) : Sit := ⟨m, s.ps.filter (fun p => decide (p.to ≤ m)), s.long, s.short⟩
theorem cut22 : Sound Try.prog 22 id (grel (args2 sitRd intRd fun s _ => s.ps.length ≤ 1000) fun x v G => SitV G v (cutF x.1 x.2)) := by
  refine comp22.grel (Tab.nil _) (ok2 _ _ _) (fun args G s h => ?_) (fun x v G G' hg h => sitRd.grow hg h) (fun args G x h => ?_)
  · obtain ⟨v, w, rfl, _⟩ := h; simp
  · obtain ⟨s, t⟩ := x
    obtain ⟨v, v2, rfl, ⟨w, rfl, a, n, c, rfl, hl, hn⟩, rfl, hb⟩ := h
    have hlen := hl.len
    dsimp only at hl hb hlen
    dsimp only
    (conv => whnf)
    refine LoopP.of { α := Nat × Nat × List Value, fr := fun x => [(1, .v (I t)), (2, .c (.ptr 0 0)), (4, .c (.ptr 1 0)), (5, .c (.ptr 8 0)), (6, .v (I x.1))], H := fun x => [(0, .cells .anon [.val (I s.len), .val (.slice a n c), .val (I s.long), .val (I s.short)] 24), (1, .cells .anon [.val (I 0), .val (.slice none 0 0), .val (I 0), .val (I 0)] 24), (8, .cells .anon [.val (I t), .row 9 x.2.1, .val (I s.long), .val (I s.short)] 24), (9, .row none x.2.1 x.2.2 41 2)], ok := fun x _ => x.1 ≤ s.ps.length ∧ Row spanE ((s.ps.take x.1).filter fun p => decide (p.to ≤ t)) x.2.1 x.2.2, m := fun x => s.ps.length - x.1 }
      (0, 0, []) (HeadP.of [(9, none)] ⟨rfl, rfl, rfl, rfl, rfl, trivial⟩ ⟨rfl, rfl, rfl, rfl, trivial⟩) ⟨Nat.zero_le _, Row.nil⟩ (fun _ => ⟨rfl, rfl⟩) (fun x G' hG hx => W.mk ?_)
    obtain ⟨i, m, vs⟩ := x
    obtain ⟨hi, hr⟩ := hx
    dsimp only at hi hr
    dsimp only
    replace hl := SlR.grow (G := G) (G' := G') (fun _ _ h => h) hl hG
    have hm := hr.n
    have hm2 : m ≤ i := by rw [hm]; exact Nat.le_trans (List.length_filter_le _ _) (by simp; omega)
    (conv => whnf)
    refine IteP.mk (fun hlt => W.mk ?_) (fun hge => W.mk ?_) <;> (conv => whnf)
    · have hlt : i < s.ps.length := by omega
      have hc := hl.el hlt
      have et : s.ps.take (i + 1) = s.ps.take i ++ [s.ps[i]] := List.take_succ_eq_append_getElem hlt
      repeat' (first | (refine IteP.mk (fun hf => W.mk ?_) (fun hf => W.mk ?_) <;> (conv => whnf)) | (refine OblP.mk ?_ (W.mk ?_); (first | trivial | omega | (simp only [inR]; omega) | exact Nat.le_of_ble_eq_true (by rfl) | exact SlR.some (by assumption) (by omega)); (conv => whnf)) | (first | (refine RdP.at (by assumption) (by rfl) (W.mk ?_); (conv => whnf)) | (refine RdP.sub (by assumption) (by rfl) (W.mk ?_); (conv => whnf)) | (refine RdP.sub2 (by assumption) (by rfl) (W.mk ?_); (conv => whnf)) | (refine RdP.sub3 (by assumption) (by rfl) (W.mk ?_); (conv => whnf))))
      · refine RoundP.of (i + 1, m + 1, vs ++ [I s.ps[i].fr, I s.ps[i].to]) (HeadP.of [(9, some 32)] ⟨rfl, rfl, rfl, rfl, rfl, trivial⟩ ⟨rfl, rfl, rfl, rfl, trivial⟩) ⟨hlt, ?_⟩ (by simp only; omega)
        show Row spanE ((s.ps.take (i + 1)).filter _) _ _
        rw [et, List.filter_append, List.filter_cons, if_pos (by simpa using hf)]
        exact hr.snoc _
      · refine RoundP.of (i + 1, m, vs) (HeadP.of [] ⟨rfl, rfl, rfl, rfl, rfl, trivial⟩ ⟨rfl, rfl, rfl, rfl, trivial⟩) ⟨hlt, ?_⟩ (by simp only; omega)
        show Row spanE ((s.ps.take (i + 1)).filter _) _ _
        rw [et, List.filter_append, List.filter_cons, if_neg (by simpa using hf), List.filter_nil, List.append_nil]
        exact hr
    · have : i = s.ps.length := by omega
      subst this
      rw [List.take_length] at hr
      refine PubP.mk (fun a1 c1 G1 hg1 hp => W.mk ?_)
      (conv => whnf)
      exact FinP.mk ⟨_, rfl, hr.pub hp (by omega)⟩
end Go.Proofs.Ytcmhpndhloplpaa

namespace Go.Proofs.Ytcmhpndhloplpaa
open Go.Pal Go.ChangeShapes

theorem SlR.map {α β : Type} {k : Nat} {R : Hp → List Value → α → Prop} {R' : Hp → List Value → β → Prop} {G : Hp} {a : Option Addr} {n c : Nat} {l : List α} (f : α → β) (hf : ∀ cs x, R G cs x → R' G cs (f x)) (h : SlR k R G a n c l) : SlR k R' G a n c (l.map f) :=
  ⟨by rw [List.length_map, h.len], h.cap, h.some, fun i hi => by
    obtain ⟨cs, h1, h2, h3⟩ := h.at_ i (by simpa using hi)
    exact ⟨cs, h1, h2, by rw [List.getElem_map]; exact hf _ _ h3⟩⟩
theorem und3 : Try.prog.underlying 3 = some (.int .i64) := by kernel_rfl
theorem o3 : Opens Try.prog 3 (cdInt .i64) := .int und3
abbrev cdSpan := cdPair (cdInt .i64) (cdPair (cdInt .i64) cdUnit)
theorem o41 : Opens Try.prog 41 cdSpan := .struct (fs := [(3, 0), (3, 1)]) (by kernel_rfl) (by kernel_rfl) (OpensF.cons o3 (OpensF.cons o3 OpensF.nil))
theorem o22 : Opens Try.prog 22 (cdSl cdSpan) := .slice (e := 41) (by kernel_rfl) o41 (by decide)
abbrev cdSit := cdPair (cdInt .i64) (cdPair (cdSl cdSpan) (cdPair (cdInt .i64) (cdPair (cdInt .i64) cdUnit)))
theorem o24 : Opens Try.prog 24 cdSit := .struct (fs := [(3, 0), (22, 1), (3, 2), (3, 3)]) (by kernel_rfl) (by kernel_rfl) (OpensF.cons o3 (OpensF.cons o22 (OpensF.cons o3 (OpensF.cons o3 OpensF.nil))))
abbrev cdSlow := cdPair (cdInt .i64) (cdPair (cdInt .i64) cdUnit)
theorem o60 : Opens Try.prog 60 cdSlow := .struct (fs := [(3, 0), (3, 1)]) (by kernel_rfl) (by kernel_rfl) (OpensF.cons o3 (OpensF.cons o3 OpensF.nil))
abbrev cdRep := cdPair cdSlow (cdPair (cdInt .i64) cdUnit)
theorem o62 : Opens Try.prog 62 cdRep := .struct (fs := [(60, 0), (3, 2)]) (by kernel_rfl) (by kernel_rfl) (OpensF.cons o60 (OpensF.cons o3 OpensF.nil))
theorem o43 : Opens Try.prog 43 (cdSl cdRep) := .slice (e := 62) (by kernel_rfl) o62 (by decide)
abbrev cdOff := cdPair (cdSl cdRep) (cdPair (cdInt .i64) (cdPair (cdInt .i64) cdUnit))
theorem o45 : Opens Try.prog 45 cdOff := .struct (fs := [(43, 0), (3, 1), (3, 2)]) (by kernel_rfl) (by kernel_rfl) (OpensF.cons o43 (OpensF.cons o3 (OpensF.cons o3 OpensF.nil)))
theorem o46 : Opens Try.prog 46 (cdSl (cdInt .i64)) := .slice (e := 3) (by kernel_rfl) o3 (by decide)
theorem o38 : Opens Try.prog 38 (cdInt .u16) := .int (by kernel_rfl)
theorem o5 : Opens Try.prog 5 (cdInt .u8) := .int (by kernel_rfl)
theorem o66 : Opens Try.prog 66 (cdSl (cdInt .u16)) := .slice (e := 38) (by kernel_rfl) o38 (by decide)

theorem span_cd {G : Hp} {cs : List Value} {x} (h : cdSpan.R G cs x) : spanE.R G cs ⟨x.1, x.2.1⟩ := by
  obtain ⟨_, _, rfl, ⟨rfl, _⟩, _, _, rfl, ⟨rfl, _⟩, rfl⟩ := h; rfl
theorem rep_cd {G : Hp} {cs : List Value} {x} (h : cdRep.R G cs x) : repE.R G cs ⟨x.1.1, x.1.2.1, x.2.1⟩ := by
  obtain ⟨_, _, rfl, ⟨_, _, rfl, ⟨rfl, _⟩, _, _, rfl, ⟨rfl, _⟩, rfl⟩, _, _, rfl, ⟨rfl, _⟩, rfl⟩ := h; rfl
theorem sit_val {G : Hp} {v : Value} (h : ∃ x, VR cdSit true G v x) : ∃ s, SitU G v s := by
  obtain ⟨x, cs, rfl, _, _, e, ⟨rfl, _⟩, _, _, rfl, ⟨a, n, c, rfl, hl, _⟩, _, _, rfl, ⟨rfl, _⟩, _, _, rfl, ⟨rfl, _⟩, rfl⟩ := h
  refine ⟨⟨x.1, x.2.1.map fun p => ⟨p.1, p.2.1⟩, x.2.2.1, x.2.2.2.1⟩, .slice a n c, ?_, a, n, c, rfl, SlR.map _ (fun _ _ h => span_cd h) hl⟩
  simp at e
  exact congrArg Value.agg (Array.toList_inj.1 e)
theorem off_val {G : Hp} {v : Value} (h : ∃ x, VR cdOff true G v x) : ∃ s, OffU G v s := by
  obtain ⟨x, cs, rfl, _, _, e, ⟨a, n, c, rfl, hl, _⟩, _, _, rfl, ⟨rfl, _⟩, _, _, rfl, ⟨rfl, _⟩, rfl⟩ := h
  refine ⟨⟨x.1.map fun r => ⟨r.1.1, r.1.2.1, r.2.1⟩, x.2.1, x.2.2.1⟩, .slice a n c, ?_, a, n, c, rfl, SlR.map _ (fun _ _ h => rep_cd h) hl⟩
  simp at e
  exact congrArg Value.agg (Array.toList_inj.1 e)
theorem one_val {G : Hp} {v : Value} (h : ∃ x, VR cdRep true G v x) : ∃ r, repRd.R G v r := by
  obtain ⟨x, cs, rfl, h⟩ := h
  refine ⟨⟨x.1.1, x.1.2.1, x.2.1⟩, ?_⟩
  have := rep_cd h
  show Value.agg cs = .agg #[_, _, _]
  congr 1
  rw [← Array.toList_inj]; exact this
theorem ints_val {G : Hp} {v : Value} (h : ∃ x, VR (cdSl (cdInt .i64)) false G v x) : ∃ l, SlU intE G v l := by
  obtain ⟨x, a, n, c, e, hl, _⟩ := h
  simp at e
  have := SlR.map (R' := intE.R) id (fun _ _ h => h.1) hl
  rw [List.map_id] at this
  exact ⟨x, a, n, c, e, this⟩
theorem u16_val {G : Hp} {v : Value} (h : ∃ x, VR (cdInt .u16) false G v x) : ∃ n, u16Rd.R G v n := by
  obtain ⟨x, e, hr⟩ := h
  simp only [inR] at hr
  simp only [List.cons.injEq, and_true] at e
  exact ⟨x.toNat, by rw [e, Int.toNat_of_nonneg hr.1], by omega⟩
theorem ownK : ownKnob Try.checked.prog.godebug = none := by kernel_rfl
theorem laidK : laidOutB Try.checked.prog = true := by kernel_rfl
theorem boolK : Try.checked.prog.underlying 4 = some .bool := by kernel_rfl
abbrev rep0 : Value := .agg #[.int .i64 0, .int .i64 0, .int .i64 0]
abbrev sit0 : Value := .agg #[.int .i64 0, .slice none 0 0, .int .i64 0, .int .i64 0]
abbrev off0 : Value := .agg #[.slice none 0 0, .int .i64 0, .int .i64 0]
end Go.Proofs.Ytcmhpndhloplpaa
