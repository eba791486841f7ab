/- The work: is there a reporter of the crew for each take; is a list right; what fails; which list is a right rota. What fails; which list is a right rota; the reference's list; a number by a word. When each take is done. A reporter is relieved. Runs: who takes what, one after the other. Plain. Runs at easier offices, and at sittings that end sooner. Plain. A right rota: the reporters have rested. Plain; and what all laws open with. -/
import Derived.Test.YtcmhpndhloplpaaMF
namespace Go.Proofs.Ytcmhpndhloplpaa
open Go.Pal

set_option maxRecDepth 100000

section
variable (x : Wk) (b1 b2 wb : Nat)
abbrev wCell (b wb : Nat) : LE := ⟨b, false, .cells [ptr wb] 90⟩
abbrev closW (b : Nat) : Value := .func (.func 59) #[] #[ptr b]
abbrev closN2 (b : Nat) : Value := .func (.func 66) #[] #[ptr b]
abbrev fCell (b b1 : Nat) : LE := ⟨b, false, .cells [closW b1] 87⟩
def memF (x : Wk) (r : Int) : Bool := inF r 0 ((x.o.crew.length : Int) - 1)
def crewS : PSpec := .st (fun args ls G => (∃ r : Int, args = [I r]) ∧ ls = [wCell b1 wb] ∧ WorkV G (ptr wb) x) (fun args _ v ns _ => ∃ r : Int, args = [I r] ∧ v = .bool (memF x r) ∧ ns = [])
theorem crew59 : Sound Try.prog 59 (fun a => (#[] : Array Value).toList ++ a ++ (#[ptr b1] : Array Value).toList) (crewS x b1 wb) := by
  refine ⟨fun args ls v ns G G' hg h => h, fun args ls G Wd hsub hls hnd hpre => ?_⟩
  obtain ⟨⟨r, rfl⟩, rfl, hw⟩ := hpre
  refine st_sound tabA comp59 (svs := [.v (I r), .c (.ptr 0 0)]) (obs := [.cells (.named b1) [.val (ptr wb)] 90]) (by simp) hsub hls hnd (Nat.le_refl _) ?_ ?_ ?_
  · exact ⟨rfl, trivial, ⟨_, rfl, rfl⟩, (Nat.le_of_ble_eq_true rfl : 0 < 1), trivial⟩
  · refine ⟨⟨_, rfl, relL_vals _ [ptr wb], ?_⟩, trivial⟩
    intro c hc; simp at hc; subst hc; trivial
  · obtain ⟨_, w1, w2, w3, hp, cw, ⟨a1, n1, c1, rfl, l1, hn1⟩, ⟨a2, n2, c2, rfl, l2, hn2⟩, ⟨a3, n3, c3, rfl, l3, hn3⟩⟩ := hw
    cases hp
    have e2 := l2.len
    (conv => whnf)
    repeat' (first | (refine OblP.mk ?_ (W.mk ?_); (first | trivial | omega | (simp only [inR]; omega) | exact Nat.le_of_ble_eq_true (by rfl) | exact SlR.some (by assumption) (by omega)); (conv => whnf)) | (first | (refine RdP.at (by assumption) (by rfl) (W.mk ?_); (conv => whnf)) | (refine RdP.sub (by assumption) (by rfl) (W.mk ?_); (conv => whnf)) | (refine RdP.sub2 (by assumption) (by rfl) (W.mk ?_); (conv => whnf)) | (refine RdP.sub3 (by assumption) (by rfl) (W.mk ?_); (conv => whnf))))
    refine OblP.mk ⟨_, _, _, rfl⟩ (W.mk ?_)
    (conv => whnf)
    have hm : memF x r = inF r 0 ((n2 : Int) - 1) := by rw [memF, e2]
    refine ForkP.mk (fun h => W.mk ?_) (fun h => W.mk ?_) <;> (conv => whnf) <;> refine FinS.mk ⟨[], ⟨.cells [ptr wb] 90, ⟨_, rfl, rfl⟩, trivial, rfl, rfl⟩, r, rfl, ?_, rfl⟩ <;> rw [hm, h] <;> rfl

abbrev led2 : List LE := [wCell b1 wb, fCell b2 b1]
theorem fin2 {H : Nat → Option OB} {b1 b2 wb : Nat} (h0 : H 0 = some (.cells (.named b1) [.val (ptr wb)] 90)) (h1 : H 1 = some (.cells (.named b2) [.val (closW b1)] 87)) : finL H 0 (led2 b1 b2 wb) [] :=
  ⟨.cells [ptr wb] 90, ⟨_, h0, rfl⟩, trivial, rfl, .cells [closW b1] 87, ⟨_, h1, rfl⟩, trivial, rfl, rfl⟩
theorem lend2 {H : Nat → Option OB} {b1 b2 wb : Nat} (h0 : H 0 = some (.cells (.named b1) [.val (ptr wb)] 90)) (h1 : H 1 = some (.cells (.named b2) [.val (closW b1)] 87)) : lendOk H [(0, wCell b1 wb), (1, fCell b2 b1)] :=
  ⟨⟨_, h0, rfl⟩, ⟨_, h1, rfl⟩, trivial⟩
theorem obs2 {n1 n2 : Nat} {vs1 vs2 : Value} : ∀ (b1 b2 wb : Nat), obsOk (lentE (led2 b1 b2 wb)) 2 (led2 b1 b2 wb) [.cells (.named b1) [.val (ptr wb)] 90, .cells (.named b2) [.val (closW b1)] 87] := fun b1 b2 wb => by
  refine ⟨⟨_, rfl, relL_vals _ [ptr wb], ?_⟩, ⟨_, rfl, relL_vals _ [closW b1], ?_⟩, trivial⟩
  · intro c hc; simp at hc; subst hc; trivial
  · intro c hc; simp at hc; subst hc; trivial
def notCrewS : PSpec := .st (fun args ls G => (∃ r : Int, args = [I r]) ∧ ls = led2 b1 b2 wb ∧ WorkV G (ptr wb) x) (fun args _ v ns _ => ∃ r : Int, args = [I r] ∧ v = .bool (!memF x r) ∧ ns = [])
theorem not66 : Sound Try.prog 66 (fun a => (#[] : Array Value).toList ++ a ++ (#[ptr b2] : Array Value).toList) (notCrewS x b1 b2 wb) := by
  refine ⟨fun args ls v ns G G' hg h => h, fun args ls G Wd hsub hls hnd hpre => ?_⟩
  obtain ⟨⟨r, rfl⟩, rfl, hw⟩ := hpre
  refine st_sound tabA comp66 (svs := [.v (I r), .c (.ptr 1 0)]) (obs := [.cells (.named b1) [.val (ptr wb)] 90, .cells (.named b2) [.val (closW b1)] 87]) (by simp) hsub hls hnd (Nat.le_refl _) ?_ ?_ ?_
  · exact ⟨rfl, trivial, ⟨_, rfl, rfl⟩, (Nat.le_of_ble_eq_true rfl : 1 < 2), trivial⟩
  · exact obs2 (n1 := 0) (n2 := 0) (vs1 := ptr 0) (vs2 := ptr 0) b1 b2 wb
  · (conv => whnf)
    refine CallvP.fn _ (SoundFn.of body59 (crew59 x b1 wb)) (W.mk ?_)
    (conv => whnf)
    refine StP.mk ⟨[(0, wCell b1 wb)], ⟨⟨_, rfl, rfl⟩, trivial⟩, by simp, ⟨⟨r, rfl⟩, rfl, hw⟩, fun v ns G3 hg3 hpost => W.mk ?_⟩
    obtain ⟨r', q1, rfl, rfl⟩ := hpost
    simp only [List.cons.injEq, and_true, Value.int.injEq, true_and] at q1
    subst q1
    (conv => whnf)
    refine ForkP.mk (fun hm => W.mk ?_) (fun hm => W.mk ?_) <;> (conv => whnf) <;> refine FinS.mk ⟨_, fin2 rfl rfl, r, rfl, ?_, rfl⟩ <;> rw [hm] <;> rfl
def idxM (x : Wk) (l : List Int) (k : Nat) : Int := match l with
  | [] => -1
  | r :: t => if memF x r then idxM x t (k + 1) else (k : Int)
theorem idxM_all : ∀ (l : List Int) (k : Nat), decide (0 ≤ idxM x l k) = !(l.all (memF x))
  | [], k => rfl
  | r :: t, k => by
    unfold idxM
    cases hf : memF x r with
    | true => simp only [if_true, List.all_cons, hf, Bool.true_and]; exact idxM_all t _
    | false => simp [hf]
/-- What 71 and 65 are given: a list, and the turned test. -/
def chkPre (args : List Value) (ls : List LE) (G : Hp) : Prop := ∃ x b1 b2 wb, (∃ (w : Value) (l : List Int), args = [w, closN2 b2] ∧ SlV intE G w l) ∧ ls = led2 b1 b2 wb ∧ WorkV G (ptr wb) x
def chkPost (q : Wk → List Int → Value) (args : List Value) (ls : List LE) (v : Value) (ns : List LB) (G : Hp) : Prop := ∃ x b1 b2 wb, ∃ (w : Value) (l : List Int), args = [w, closN2 b2] ∧ SlV intE G w l ∧ ls = led2 b1 b2 wb ∧ WorkV G (ptr wb) x ∧ v = q x l ∧ ns = []
theorem chk_grow {q : Wk → List Int → Value} {args ls v ns G G'} (hg : Grow G G') (h : chkPost q args ls v ns G) : chkPost q args ls v ns G' := by
  obtain ⟨x, b1, b2, wb, w, l, h1, h2, h3, h4, h5⟩ := h; exact ⟨x, b1, b2, wb, w, l, h1, h2.grow hg, h3, h4.grow hg, h5⟩
theorem chk71 : Sound Try.prog 71 id (.st chkPre (chkPost fun x l => I (idxM x l 0))) := by
  refine ⟨fun args ls v ns G G' hg h => chk_grow hg h, fun args ls G Wd hsub hls hnd hpre => ?_⟩
  obtain ⟨x, b1, b2, wb, ⟨w, l, rfl, ⟨a, n, c, rfl, hl, hn⟩⟩, rfl, hw⟩ := hpre
  refine st_sound tabA comp71 (svs := [.v (.slice a n c), .v (closN2 b2)]) (obs := [.cells (.named b1) [.val (ptr wb)] 90, .cells (.named b2) [.val (closW b1)] 87]) (by simp) hsub hls hnd (Nat.le_refl _) ?_ (obs2 (n1 := 0) (n2 := 0) (vs1 := ptr 0) (vs2 := ptr 0) b1 b2 wb) ?_
  · exact ⟨rfl, trivial, rfl, trivial, trivial⟩
  · have hlen := hl.len
    (conv => whnf)
    refine LoopP.of { α := Nat, fr := fun x => [(0, .v (.slice a n c)), (1, .v (closN2 b2)), (7, .v (I n)), (8, .v (I x))], H := fun _ => [(0, .cells (.named b1) [.val (ptr wb)] 90), (1, .cells (.named b2) [.val (closW b1)] 87)], ok := fun i _ => i ≤ l.length ∧ idxM x (l.drop i) i = idxM x l 0, m := fun x => l.length - x }
      0 (HeadP.of [] ⟨rfl, rfl, rfl, rfl, trivial⟩ ⟨rfl, rfl, trivial⟩) ⟨Nat.zero_le _, rfl⟩ (fun _ => ⟨rfl, rfl⟩) (fun (i : Nat) G' hG hx => W.mk ?_)
    obtain ⟨hi, hx⟩ := hx
    replace hl := SlR.grow (G := G) (G' := G') (fun _ _ h => h) hl hG
    replace hw := WorkV.grow hG hw
    (conv => whnf)
    refine IteP.mk (fun hlt => W.mk ?_) (fun hge => W.mk ?_) <;> (conv => whnf)
    · have hlt : i < l.length := by omega
      have hc := hl.el hlt
      rw [List.drop_eq_getElem_cons hlt, idxM] at hx
      repeat' (first | (refine OblP.mk ?_ (W.mk ?_); (first | trivial | omega | (simp only [inR]; omega) | exact Nat.le_of_ble_eq_true (by rfl) | exact SlR.some (by assumption) (by omega)); (conv => whnf)) | (first | (refine RdP.at (by assumption) (by rfl) (W.mk ?_); (conv => whnf)) | (refine RdP.sub (by assumption) (by rfl) (W.mk ?_); (conv => whnf)) | (refine RdP.sub2 (by assumption) (by rfl) (W.mk ?_); (conv => whnf)) | (refine RdP.sub3 (by assumption) (by rfl) (W.mk ?_); (conv => whnf))))
      refine CallvP.fn _ (SoundFn.of body66 (not66 x b1 b2 wb)) (W.mk ?_)
      (conv => whnf)
      refine StP.mk ⟨[(0, wCell b1 wb), (1, fCell b2 b1)], lend2 rfl rfl, (by show ([0, 1] : List Nat).Nodup; decide), ⟨⟨l[i], rfl⟩, rfl, hw⟩, fun v ns G3 hg3 hpost => W.mk ?_⟩
      obtain ⟨r, q1, rfl, rfl⟩ := hpost
      simp only [List.cons.injEq, and_true, Value.int.injEq, true_and] at q1
      subst q1
      (conv => whnf)
      refine ForkP.mk (fun hm => W.mk ?_) (fun hm => W.mk ?_) <;> (conv => whnf)
      · refine FinS.mk ⟨_, fin2 rfl rfl, x, b1, b2, wb, _, l, rfl, ⟨a, n, c, rfl, SlR.grow (G := G') (G' := G3) (fun _ _ h => h) hl hg3, hn⟩, rfl, hw.grow hg3, ?_, rfl⟩
        rw [if_neg (by simpa using hm)] at hx
        show I (i : Int) = I (idxM x l 0); rw [← hx]
      · (refine OblP.mk ?_ (W.mk ?_); (first | trivial | omega | (simp only [inR]; omega) | exact Nat.le_of_ble_eq_true (by rfl) | exact SlR.some (by assumption) (by omega)); (conv => whnf))
        rw [if_pos (by simpa using hm)] at hx
        exact RoundP.of (i + 1) (HeadP.of [] ⟨rfl, rfl, rfl, rfl, trivial⟩ ⟨rfl, rfl, trivial⟩) ⟨hlt, hx⟩ (by simp only; omega)
    · have : i = l.length := by omega
      subst this
      rw [List.drop_length] at hx
      refine FinS.mk ⟨_, fin2 rfl rfl, x, b1, b2, wb, _, l, rfl, ⟨a, n, c, rfl, hl, hn⟩, rfl, hw, ?_, rfl⟩
      show I (-1) = I (idxM x l 0); rw [← hx]; rfl
theorem chk65 : Sound Try.prog 65 id (.st chkPre (chkPost fun x l => .bool (!(l.all (memF x))))) := by
  refine ⟨fun args ls v ns G G' hg h => chk_grow hg h, fun args ls G Wd hsub hls hnd hpre => ?_⟩
  obtain ⟨x, b1, b2, wb, ⟨w, l, rfl, ⟨a, n, c, rfl, hl, hn⟩⟩, rfl, hw⟩ := hpre
  refine st_sound (Tab.cons 71 _ chk71 body71 tabA) comp65 (svs := [.v (.slice a n c), .v (closN2 b2)]) (obs := [.cells (.named b1) [.val (ptr wb)] 90, .cells (.named b2) [.val (closW b1)] 87]) (by simp) hsub hls hnd (Nat.le_refl _) ?_ (obs2 (n1 := 0) (n2 := 0) (vs1 := ptr 0) (vs2 := ptr 0) b1 b2 wb) ?_
  · exact ⟨rfl, trivial, rfl, trivial, trivial⟩
  · (conv => whnf)
    refine StP.mk ⟨[(0, wCell b1 wb), (1, fCell b2 b1)], lend2 rfl rfl, (by show ([0, 1] : List Nat).Nodup; decide), ⟨x, b1, b2, wb, ⟨_, l, rfl, ⟨a, n, c, rfl, hl, hn⟩⟩, rfl, hw⟩, fun v ns G3 hg3 hpost => W.mk ?_⟩
    obtain ⟨x', b1', b2', wb', w', l', q1, q2, q3, q4, rfl, rfl⟩ := hpost
    simp only [List.cons.injEq, and_true, Value.func.injEq, true_and] at q1
    obtain ⟨rfl, _⟩ := q1
    have : l' = l := q2.uniq (SlV.grow hg3 ⟨a, n, c, rfl, hl, hn⟩)
    subst this
    simp only [List.map_cons, List.map_nil, List.cons.injEq, LE.mk.injEq, LB.cells.injEq, and_true, true_and] at q3
    have hwb : wb = wb' := by have := q3.1.2; simp at this; exact this
    subst hwb
    have hx : x' = x := q4.uniq (hw.grow hg3)
    subst hx
    have hall := idxM_all x' l' 0
    (conv => whnf)
    refine IteP.mk (fun hq => W.mk ?_) (fun hq => W.mk ?_) <;> (conv => whnf) <;> refine FinS.mk ⟨_, fin2 rfl rfl, x', b1, b2, wb, _, l', rfl, q2, rfl, q4, ?_, rfl⟩ <;> show Value.bool _ = Value.bool (!(l'.all (memF x'))) <;> rw [← hall] <;> simp [*]
def allPre (args : List Value) (ls : List LE) (G : Hp) : Prop := ∃ x b1 wb, (∃ (w : Value) (l : List Int), args = [w, closW b1] ∧ SlV intE G w l) ∧ ls = [wCell b1 wb] ∧ WorkV G (ptr wb) x
def allPost (args : List Value) (ls : List LE) (v : Value) (ns : List LB) (G : Hp) : Prop := ∃ x b1 wb, ∃ (w : Value) (l : List Int), args = [w, closW b1] ∧ SlV intE G w l ∧ ls = [wCell b1 wb] ∧ WorkV G (ptr wb) x ∧ v = .bool (l.all (memF x)) ∧ ns = []
theorem all58 : Sound Try.prog 58 id (.st allPre allPost) := by
  refine ⟨fun args ls v ns G G' hg h => ?_, fun args ls G Wd hsub hls hnd hpre => ?_⟩
  · obtain ⟨x, b1, wb, w, l, h1, h2, h3, h4, h5⟩ := h; exact ⟨x, b1, wb, w, l, h1, h2.grow hg, h3, h4.grow hg, h5⟩
  obtain ⟨x, b1, wb, ⟨w, l, rfl, ⟨a, n, c, rfl, hl, hn⟩⟩, rfl, hw⟩ := hpre
  refine st_sound (Tab.cons 65 _ chk65 body65 tabA) comp58 (svs := [.v (.slice a n c), .v (closW b1)]) (obs := [.cells (.named b1) [.val (ptr wb)] 90]) (by simp) hsub hls hnd (Nat.le_refl _) ?_ ?_ ?_
  · exact ⟨rfl, trivial, rfl, trivial, trivial⟩
  · refine ⟨⟨_, rfl, relL_vals _ [ptr wb], ?_⟩, trivial⟩
    intro c hc; simp at hc; subst hc; trivial
  · (conv => whnf)
    refine NameP.mk (fun b2 => W.mk ?_)
    (conv => whnf)
    refine StP.mk ⟨[(0, wCell b1 wb), (1, fCell b2 b1)], lend2 rfl rfl, (by show ([0, 1] : List Nat).Nodup; decide), ⟨x, b1, b2, wb, ⟨_, l, rfl, ⟨a, n, c, rfl, hl, hn⟩⟩, rfl, hw⟩, fun v ns G3 hg3 hpost => W.mk ?_⟩
    obtain ⟨x', b1', b2', wb', w', l', q1, q2, q3, q4, rfl, rfl⟩ := hpost
    simp only [List.cons.injEq, and_true, Value.func.injEq, true_and] at q1
    obtain ⟨rfl, _⟩ := q1
    have : l' = l := q2.uniq (SlV.grow hg3 ⟨a, n, c, rfl, hl, hn⟩)
    subst this
    simp only [List.map_cons, List.map_nil, List.cons.injEq, LE.mk.injEq, LB.cells.injEq, and_true, true_and] at q3
    have hwb : wb = wb' := by have := q3.1.2; simp at this; exact this
    subst hwb
    have hx : x' = x := q4.uniq (hw.grow hg3)
    subst hx
    (conv => whnf)
    refine ForkP.mk (fun hm => W.mk ?_) (fun hm => W.mk ?_) <;> (conv => whnf) <;> refine FinS.mk ⟨[], ⟨.cells [ptr wb] 90, ⟨_, rfl, rfl⟩, trivial, rfl, rfl⟩, x', b1, wb, _, l', rfl, q2, rfl, q4, ?_, rfl⟩ <;> (refine congrArg Value.bool ?_; simpa using hm)
end
def listedF (x : Wk) (l : List Int) : Bool := decide (l.length = x.t.length) && l.all (memF x)
theorem listed45 : Sound Try.prog 45 id (gsca (args2 workRd (slRd intE) fun _ _ => True) fun x v => v = .bool (listedF x.1 x.2)) := by
  refine comp45.gsca (Tab.cons 58 _ all58 body58 tabA) (fun args G s h => ?_) (fun args G x h => ?_)
  · obtain ⟨v, w, rfl, _⟩ := h; simp
  · obtain ⟨x, l⟩ := x
    obtain ⟨u, v, rfl, hw, ⟨a, n, c, rfl, hl, hn⟩, _⟩ := h
    dsimp only at hw hl
    have hw0 := hw
    obtain ⟨wb, w1, w2, w3, rfl, cw, _, _, ⟨a3, n3, c3, rfl, l3, hn3⟩⟩ := hw
    have e1 := hl.len
    have e3 := l3.len
    dsimp only
    (conv => whnf)
    repeat' (first | (refine OblP.mk ?_ (W.mk ?_); (first | trivial | omega | (simp only [inR]; omega) | exact Nat.le_of_ble_eq_true (by rfl) | exact SlR.some (by assumption) (by omega)); (conv => whnf)) | (first | (refine RdP.at (by assumption) (by rfl) (W.mk ?_); (conv => whnf)) | (refine RdP.sub (by assumption) (by rfl) (W.mk ?_); (conv => whnf)) | (refine RdP.sub2 (by assumption) (by rfl) (W.mk ?_); (conv => whnf)) | (refine RdP.sub3 (by assumption) (by rfl) (W.mk ?_); (conv => whnf))))
    refine IteP.mk (fun h => W.mk ?_) (fun h => W.mk ?_) <;> (conv => whnf)
    · refine NameP.mk (fun b1 => W.mk ?_)
      (conv => whnf)
      refine StP.mk ⟨[(0, wCell b1 wb)], ⟨⟨_, rfl, rfl⟩, trivial⟩, by simp, ⟨x, b1, wb, ⟨_, l, rfl, ⟨a, n, c, rfl, hl, hn⟩⟩, rfl, hw0⟩, fun v ns G3 hg3 hpost => W.mk ?_⟩
      obtain ⟨x', b1', wb', w', l', q1, q2, q3, q4, rfl, rfl⟩ := hpost
      simp only [List.cons.injEq, and_true, Value.func.injEq, true_and] at q1
      obtain ⟨rfl, _⟩ := q1
      have : l' = l := q2.uniq (SlV.grow hg3 ⟨a, n, c, rfl, hl, hn⟩)
      subst this
      simp only [List.map_cons, List.map_nil, List.cons.injEq, LE.mk.injEq, LB.cells.injEq, and_true, true_and] at q3
      have hwb : wb = wb' := by have := q3.2; simp at this; exact this
      subst hwb
      have hx : x' = x := q4.uniq (hw0.grow hg3)
      subst hx
      (conv => whnf)
      have hd : decide (l'.length = x'.t.length) = true := by simp only [decide_eq_true_eq]; omega
      refine ForkP.mk (fun hm => W.mk ?_) (fun hm => W.mk ?_) <;> (conv => whnf) <;> refine FinP.mk ?_ <;> (refine congrArg Value.bool ?_; rw [listedF, hd, hm]; rfl)
    · refine NameP.mk (fun b1 => W.mk ?_)
      (conv => whnf)
      refine FinP.mk ?_
      refine congrArg Value.bool ?_
      have hd : decide (l.length = x.t.length) = false := by simp only [decide_eq_false_iff_not]; omega
      rw [listedF, hd]; rfl
/-- Each may have the take that comes, after the others. -/
def rightF (x : Wk) (l : List Int) : Bool := (List.range l.length).all fun k => mayF x (beginF (l.take k)) (l.getD k 0).toNat
theorem right46 : Sound Try.prog 46 id (gsca (args2 workRd (slRd intE) fun x l => Fine x ∧ x.o.crew.length ≤ 5 ∧ x.t.length ≤ 1000000 ∧ listedF x l = true) fun x v => v = .bool (rightF x.1 x.2)) := by
  refine comp46.gsca tabP (fun args G s h => ?_) (fun args G x h => ?_)
  · obtain ⟨v, w, rfl, _⟩ := h; simp
  · obtain ⟨x, l⟩ := x
    obtain ⟨u, v, rfl, hw, ⟨a, n, c, rfl, hl, hn⟩, hf, h5, hT, hli⟩ := h
    dsimp only at hw hl hf h5 hT hli
    have hlen := hl.len
    simp only [listedF, Bool.and_eq_true, decide_eq_true_eq, List.all_eq_true, memF, inF] at hli
    obtain ⟨hlt, hmem⟩ := hli
    dsimp only
    obtain ⟨wb, w1, w2, w3, hu, _⟩ := id hw
    subst hu
    (conv => whnf)
    refine ScaP.g (ok1 (slRd intE) fun l => l.length ≤ 1000000 ∧ ∀ x ∈ l, 0 ≤ x ∧ x < 5) (x := []) ⟨_, rfl, SlV.nil, Nat.zero_le _, fun j hj => by cases hj⟩ (fun v hv3 => W.mk ?_)
    have hv0 : v = .agg #[I 0, I (-1), I (-1), I (-1), I (-1), I (-1)] := hv3.trans rfl
    subst hv0
    (conv => whnf)
    repeat' (refine OblP.mk ?_ (W.mk ?_); (first | trivial | omega | (simp only [inR]; omega) | exact Nat.le_of_ble_eq_true (by rfl) | exact SlR.some (by assumption) (by omega)); (conv => whnf))
    refine LoopP.of { α := Nat × Nat × Int × Int × Int × Int × Int, fr := fun y => [(0, .v (ptr wb)), (5, .c (.ptr 2 0)), (9, .v (.slice a n c)), (10, .v (I n)), (11, .v (I y.1))], H := fun x => [(2, .cells .anon [.val (I x.2.1), .val (I x.2.2.1), .val (I x.2.2.2.1), .val (I x.2.2.2.2.1), .val (I x.2.2.2.2.2.1), .val (I x.2.2.2.2.2.2)] 110)], ok := fun y _ => y.1 ≤ l.length ∧ y.2.1 = y.1 ∧ (∀ k, k < y.1 → mayF x (beginF (l.take k)) (l.getD k 0).toNat = true) ∧ ∃ h, beginF (l.take y.1) = ⟨y.2.1, [y.2.2.1, y.2.2.2.1, y.2.2.2.2.1, y.2.2.2.2.2.1, y.2.2.2.2.2.2], h⟩, m := fun x => l.length - x.1 }
        (0, 0, -1, -1, -1, -1, -1) (HeadP.of [] ⟨rfl, rfl, rfl, rfl, rfl, trivial⟩ ⟨rfl, trivial⟩) ⟨Nat.zero_le _, rfl, fun k h => absurd h (Nat.not_lt_zero _), rfl, rfl⟩ (fun _ => ⟨rfl, rfl⟩) (fun y G2 hG hy => W.mk ?_)
    obtain ⟨i, m, x1, x2, x3, x4, x5⟩ := y
    obtain ⟨hi, hm, hall, h5', hb⟩ := hy
    dsimp only at hi hm hb hall
    replace hl := SlR.grow (G := G) (G' := G2) (fun _ _ h => h) hl hG
    replace hw := WorkV.grow hG hw
    dsimp only
    (conv => whnf)
    refine IteP.mk (fun hlt' => W.mk ?_) (fun hge => W.mk ?_) <;> (conv => whnf)
    · have hi1 : i < l.length := by omega
      have hc := hl.el hi1
      have hx := hmem _ (List.getElem_mem hi1)
      have hgd : l.getD i 0 = l[i] := by simp [hi1]
      have hok : HadOk x (beginF (l.take i)) := begin_ok (by simp; omega)
      have hvl : (beginF (l.take i)).val = .agg #[I m, I x1, I x2, I x3, I x4, I x5] := by rw [hb]; rfl
      have hnn : (beginF (l.take i)).n = i := by rw [hb]; exact hm
      repeat' (first | (refine OblP.mk ?_ (W.mk ?_); (first | trivial | omega | (simp only [inR]; omega) | exact Nat.le_of_ble_eq_true (by rfl) | exact SlR.some (by assumption) (by omega)); (conv => whnf)) | (first | (refine RdP.at (by assumption) (by rfl) (W.mk ?_); (conv => whnf)) | (refine RdP.sub (by assumption) (by rfl) (W.mk ?_); (conv => whnf)) | (refine RdP.sub2 (by assumption) (by rfl) (W.mk ?_); (conv => whnf)) | (refine RdP.sub3 (by assumption) (by rfl) (W.mk ?_); (conv => whnf))))
      refine ScaP.g (ok3 workRd sttRd natRd fun x s i => Fine x ∧ s.n < x.t.length ∧ i < x.o.crew.length ∧ x.o.crew.length ≤ 5 ∧ HadOk x s) (x := (x, beginF (l.take i), l[i].toNat)) ⟨_, _, _, rfl, hw, hvl.symm, by show I l[i] = I (l[i].toNat : Nat); congr 1; omega, hf, by show (beginF (l.take i)).n < x.t.length; rw [hnn]; omega, by show l[i].toNat < x.o.crew.length; omega, h5, hok⟩ (fun v hv => W.mk ?_)
      subst hv
      (conv => whnf)
      refine ForkP.mk (fun hma => W.mk ?_) (fun hma => W.mk ?_) <;> (conv => whnf)
      · have hma : mayF x (beginF (l.take i)) l[i].toNat = true := hma
        repeat' (first | (refine OblP.mk ?_ (W.mk ?_); (first | trivial | omega | (simp only [inR]; omega) | exact Nat.le_of_ble_eq_true (by rfl) | exact SlR.some (by assumption) (by omega)); (conv => whnf)) | (first | (refine RdP.at (by assumption) (by rfl) (W.mk ?_); (conv => whnf)) | (refine RdP.sub (by assumption) (by rfl) (W.mk ?_); (conv => whnf)) | (refine RdP.sub2 (by assumption) (by rfl) (W.mk ?_); (conv => whnf)) | (refine RdP.sub3 (by assumption) (by rfl) (W.mk ?_); (conv => whnf))))
        refine ScaP.g (ok2 sttRd natRd fun s i => i < 5 ∧ s.n ≤ 1000000) (x := (beginF (l.take i), l[i].toNat)) ⟨_, _, rfl, hvl.symm, by show I l[i] = I (l[i].toNat : Nat); congr 1; omega, by show l[i].toNat < 5; omega, by show (beginF (l.take i)).n ≤ 1000000; rw [hnn]; omega⟩ (fun v hv => W.mk ?_)
        have hs := begin_snoc hi1
        simp only [← hs] at hv
        obtain ⟨n', y1, y2, y3, y4, y5, h5'', e⟩ := Stt.cases (beginF (l.take (i + 1)))
        have hn' : n' = i + 1 := by
          have := begin_len (l.take (i + 1))
          rw [e] at this
          simp at this
          omega
        rw [e] at hv
        subst hv
        (conv => whnf)
        repeat' (refine OblP.mk ?_ (W.mk ?_); (first | trivial | omega | (simp only [inR]; omega) | exact Nat.le_of_ble_eq_true (by rfl) | exact SlR.some (by assumption) (by omega)); (conv => whnf))
        refine RoundP.of (i + 1, n', y1, y2, y3, y4, y5) (HeadP.of [] ⟨rfl, rfl, rfl, rfl, rfl, trivial⟩ ⟨rfl, trivial⟩) ⟨hi1, hn', fun k hk => ?_, h5'', e⟩ (by simp only; omega)
        by_cases hki : k = i
        · subst hki; rw [hgd]; exact hma
        · exact hall k (by simp only at hk; omega)
      · have hma : mayF x (beginF (l.take i)) l[i].toNat = false := hma
        refine FinP.mk ?_
        refine congrArg Value.bool ?_
        symm
        rw [rightF, List.all_eq_false]
        exact ⟨i, List.mem_range.2 hi1, by rw [hgd, hma]; decide⟩
    · have : i = l.length := by omega
      subst this
      (conv => whnf)
      refine FinP.mk ?_
      refine congrArg Value.bool ?_
      symm
      rw [rightF, List.all_eq_true]
      exact fun k hk => hall k (List.mem_range.1 hk)
end Go.Proofs.Ytcmhpndhloplpaa

namespace Go.Proofs.Ytcmhpndhloplpaa
open Go.Pal

set_option maxRecDepth 100000

def failsE (s : Sit) (o : Off) : Int := if errW s o = 0 then (if farthestF (wkF s o) [] (-1) = (takesF s).length then 7 else 0) else errW s o
def failsV (s : Sit) (o : Off) : Int := if failsE s o = 0 then farthestF (wkF s o) [] (-1) else 0
theorem fails19 : Sound Try.prog 19 id (gsca (args2 sitRd offRd fun s _ => Calm s) fun x v => v = .tuple #[I (failsV x.1 x.2), I (failsE x.1 x.2)]) := by
  refine comp19.gsca tabT (fun args G s h => ?_) (fun args G x h => ?_)
  · obtain ⟨v, w, rfl, _⟩ := h; simp
  · obtain ⟨s, o⟩ := x
    obtain ⟨u, v, rfl, ⟨w1, rfl, a, n, c, rfl, hl, hn⟩, ⟨w2, rfl, a2, n2, c2, rfl, hl2, hn2⟩, hcalm⟩ := h
    simp only at hl hl2 hcalm
    dsimp only
    (conv => whnf)
    refine RelP.g (ok2 sitRd offRd fun s _ => Calm s) (x := (s, o)) ⟨_, _, rfl, ⟨_, rfl, a, n, c, rfl, hl, hn⟩, ⟨_, rfl, a2, n2, c2, rfl, hl2, hn2⟩, hcalm⟩ (Grow.refl _) (fun v G1 hg1 hq => W.mk ?_)
    obtain ⟨w, rfl, hq⟩ := hq
    simp only at hq
    dsimp only
    split at hq
    · rename_i he
      obtain ⟨hf, hc, ht⟩ := fine0 he
      have hq0 := hq
      obtain ⟨b, v1, v2, v3, rfl, cw, _, _, ⟨a3, n3, c3, rfl, l3, hn3⟩⟩ := hq
      have e3 : (takesF s).length = n3 := l3.len
      (conv => whnf)
      refine IteP.mk (fun h => W.mk ?_) (fun h => absurd he h)
      (conv => whnf)
      refine RelP.g (ok3 workRd (slRd intE) intRd fun x l _ => Fine x ∧ x.o.crew.length ≤ 5 ∧ x.t.length ≤ 1000000 ∧ l.length ≤ x.t.length ∧ ∀ j ∈ l, 0 ≤ j ∧ j < 5) (x := (wkF s o, [], -1)) ⟨_, _, _, rfl, hq0, SlV.nil, rfl, hf, hc.2, by show (takesF s).length ≤ _; omega, Nat.zero_le _, fun j hj => by cases hj⟩ (Grow.refl _) (fun v G2 hg2 hq2 => W.mk ?_)
      obtain ⟨w4, rfl, a4, n4, c4, rfl, l4, hn4⟩ := hq2
      dsimp only
      have cw2 := cw.grow hg2
      (conv => whnf)
      repeat' (first | (refine OblP.mk ?_ (W.mk ?_); (first | trivial | omega | (simp only [inR]; omega) | exact Nat.le_of_ble_eq_true (by rfl) | exact SlR.some (by assumption) (by omega)); (conv => whnf)) | (first | (refine RdP.at (by assumption) (by rfl) (W.mk ?_); (conv => whnf)) | (refine RdP.sub (by assumption) (by rfl) (W.mk ?_); (conv => whnf)) | (refine RdP.sub2 (by assumption) (by rfl) (W.mk ?_); (conv => whnf)) | (refine RdP.sub3 (by assumption) (by rfl) (W.mk ?_); (conv => whnf))))
      refine IteP.mk (fun hlt => W.mk ?_) (fun hlt => W.mk ?_) <;> (conv => whnf) <;> refine FinP.mk ?_
      · have e0 : failsE s o = 7 := by rw [failsE, if_pos he, if_pos (by omega)]
        rw [failsV, e0]; rfl
      · have e0 : failsE s o = 0 := by rw [failsE, if_pos he, if_neg (by omega)]
        rw [failsV, if_pos e0, e0]; rfl
    · rename_i he
      subst hq
      (conv => whnf)
      refine IteP.mk (fun h => absurd h he) (fun h => W.mk ?_)
      (conv => whnf)
      refine FinP.mk ?_
      have e0 : failsE s o = errW s o := by rw [failsE, if_neg he]
      rw [failsV, e0, if_neg he]; rfl
def proveF (s : Sit) (o : Off) (l : List Int) : Bool := decide (errW s o = 0) && (listedF (wkF s o) l && rightF (wkF s o) l)
def tabD3 : Tab Try.prog := Tab.cons 45 _ listed45 body45 (Tab.cons 46 _ right46 body46 tabT)
theorem prove20 : Sound Try.prog 20 id (gsca (args3 sitRd offRd (slRd intE) fun s _ _ => Calm s) fun x v => v = .bool (proveF x.1 x.2.1 x.2.2)) := by
  refine comp20.gsca tabD3 (fun args G s h => ?_) (fun args G x h => ?_)
  · obtain ⟨u, v, w, rfl, _⟩ := h; simp
  · obtain ⟨s, o, l⟩ := x
    obtain ⟨u, v, w, rfl, ⟨w1, rfl, a, n, c, rfl, hl, hn⟩, ⟨w2, rfl, a2, n2, c2, rfl, hl2, hn2⟩, hr, hcalm⟩ := h
    simp only at hl hl2 hcalm hr
    have hr0 := hr
    obtain ⟨ra, rn, rc, rfl, rl, hrn⟩ := hr
    dsimp only
    (conv => whnf)
    refine RelP.g (ok2 sitRd offRd fun s _ => Calm s) (x := (s, o)) ⟨_, _, rfl, ⟨_, rfl, a, n, c, rfl, hl, hn⟩, ⟨_, rfl, a2, n2, c2, rfl, hl2, hn2⟩, hcalm⟩ (Grow.refl _) (fun v G1 hg1 hq => W.mk ?_)
    obtain ⟨w, rfl, hq⟩ := hq
    simp only at hq
    dsimp only
    replace hr0 := hr0.grow hg1
    split at hq
    · rename_i he
      obtain ⟨hf, hc, ht⟩ := fine0 he
      have hq0 := hq
      obtain ⟨b, v1, v2, v3, rfl, cw, _, _, _⟩ := hq
      (conv => whnf)
      refine IteP.mk (fun h => W.mk ?_) (fun h => absurd he h)
      (conv => whnf)
      refine ScaP.g (ok2 workRd (slRd intE) fun _ _ => True) (x := (wkF s o, l)) ⟨_, _, rfl, hq0, hr0, trivial⟩ (fun v hv => W.mk ?_)
      subst hv
      have hd : decide (errW s o = 0) = true := decide_eq_true he
      (conv => whnf)
      refine ForkP.mk (fun h1 => W.mk ?_) (fun h1 => W.mk ?_) <;> (conv => whnf)
      · refine ScaP.g (ok2 workRd (slRd intE) fun x l => Fine x ∧ x.o.crew.length ≤ 5 ∧ x.t.length ≤ 1000000 ∧ listedF x l = true) (x := (wkF s o, l)) ⟨_, _, rfl, hq0, hr0, hf, hc.2, by show (takesF s).length ≤ _; omega, h1⟩ (fun v hv => W.mk ?_)
        subst hv
        (conv => whnf)
        refine ForkP.mk (fun h2 => W.mk ?_) (fun h2 => W.mk ?_) <;> (conv => whnf) <;> refine FinP.mk ?_ <;> refine congrArg Value.bool ?_ <;> simp only at h1 h2 <;> rw [proveF, hd, h1, h2] <;> rfl
      · refine FinP.mk ?_
        refine congrArg Value.bool ?_
        simp only at h1
        rw [proveF, hd, h1]; rfl
    · rename_i he
      subst hq
      (conv => whnf)
      refine IteP.mk (fun h => absurd h he) (fun h => W.mk ?_)
      (conv => whnf)
      refine FinP.mk ?_
      refine congrArg Value.bool ?_
      rw [proveF, decide_eq_false he]; rfl
/-- The reference's word for it. -/
theorem lists24 : Sound Try.prog 24 id (gsca (args3 offRd (slRd spanE) (slRd intE) fun _ _ _ => True) fun x v => v = .bool (decide (x.2.2.length = x.2.1.length) && x.2.2.all fun r => inF r 0 ((x.1.crew.length : Int) - 1))) := by
  refine comp24.gsca tabA (fun args G s h => ?_) (fun args G x h => ?_)
  · obtain ⟨u, v, w, rfl, _⟩ := h; simp
  · obtain ⟨o, t, l⟩ := x
    obtain ⟨u, v, w, rfl, ⟨w2, rfl, a2, n2, c2, rfl, hl2, hn2⟩, ⟨a3, n3, c3, rfl, l3, hn3⟩, ⟨a, n, c, rfl, hl, hn⟩, _⟩ := h
    simp only at hl hl2 l3
    have e1 := hl.len
    have e2 := hl2.len
    have e3 := l3.len
    dsimp only
    (conv => whnf)
    refine LoopP.of { α := Nat, fr := fun x => [(1, .v (.slice a3 n3 c3)), (2, .v (.slice a n c)), (3, .c (.ptr 0 0)), (7, .v (I x))], H := fun _ => [(0, .cells .anon [.val (.slice a2 n2 c2), .val (I o.due), .val (I o.delay)] 45)], ok := fun x _ => x ≤ l.length ∧ l.all (fun r => inF r 0 ((n2 : Int) - 1)) = (l.drop x).all (fun r => inF r 0 ((n2 : Int) - 1)), m := fun x => l.length - x }
      0 (HeadP.of [] ⟨rfl, rfl, rfl, rfl, trivial⟩ ⟨rfl, trivial⟩) ⟨Nat.zero_le _, rfl⟩ (fun _ => ⟨rfl, rfl⟩) (fun (x : Nat) G' hG hx => W.mk ?_)
    obtain ⟨hi, hx⟩ := hx
    replace hl := SlR.grow (G := G) (G' := G') (fun _ _ h => h) hl hG
    (conv => whnf)
    refine IteP.mk (fun hlt => W.mk ?_) (fun hge => W.mk ?_) <;> (conv => whnf)
    · have hlt : x < l.length := by omega
      have hc := hl.el hlt
      rw [List.drop_eq_getElem_cons hlt, List.all_cons] at hx
      repeat' (first | (refine OblP.mk ⟨_, _, _, rfl⟩ (W.mk ?_); (conv => whnf)) | (refine OblP.mk ?_ (W.mk ?_); (first | trivial | omega | (simp only [inR]; omega) | exact Nat.le_of_ble_eq_true (by rfl) | exact SlR.some (by assumption) (by omega)); (conv => whnf)) | (first | (refine RdP.at (by assumption) (by rfl) (W.mk ?_); (conv => whnf)) | (refine RdP.sub (by assumption) (by rfl) (W.mk ?_); (conv => whnf)) | (refine RdP.sub2 (by assumption) (by rfl) (W.mk ?_); (conv => whnf)) | (refine RdP.sub3 (by assumption) (by rfl) (W.mk ?_); (conv => whnf))))
      refine ForkP.mk (fun hm => W.mk ?_) (fun hm => W.mk ?_) <;> (conv => whnf)
      · repeat' (refine OblP.mk ?_ (W.mk ?_); (first | trivial | omega | (simp only [inR]; omega) | exact Nat.le_of_ble_eq_true (by rfl) | exact SlR.some (by assumption) (by omega)); (conv => whnf))
        exact RoundP.of (x + 1) (HeadP.of [] ⟨rfl, rfl, rfl, rfl, trivial⟩ ⟨rfl, trivial⟩) ⟨hlt, by rw [hx, hm, Bool.true_and]⟩ (by simp only; omega)
      · refine FinP.mk ?_
        refine congrArg Value.bool ?_
        rw [e2, hx, hm]; simp
    · have : x = l.length := by omega
      subst this
      rw [List.drop_length, List.all_nil] at hx
      refine IteP.mk (fun h => W.mk ?_) (fun h => W.mk ?_) <;> (conv => whnf) <;> refine FinP.mk ?_ <;> refine congrArg Value.bool ?_
      · rw [e2, hx, decide_eq_true (by omega)]; rfl
      · rw [decide_eq_false (by omega)]; rfl
def u16E : El Nat := ⟨1, fun p => [.int .u16 p], fun {x y} h => by simp at h; omega, fun _ => rfl, fun _ v hv => by simp at hv; rw [hv]; rfl⟩
abbrev args4 {α β γ δ : Type} (A : Rd α) (B : Rd β) (C : Rd γ) (D : Rd δ) (q : α → β → γ → δ → Prop) : GRel (α × β × γ × δ) := fun args G x => ∃ u v w z, args = [u, v, w, z] ∧ A.R G u x.1 ∧ B.R G v x.2.1 ∧ C.R G w x.2.2.1 ∧ D.R G z x.2.2.2 ∧ q x.1 x.2.1 x.2.2.1 x.2.2.2
theorem ok4 {α β γ δ : Type} (A : Rd α) (B : Rd β) (C : Rd γ) (D : Rd δ) (q : α → β → γ → δ → Prop) : GOk (args4 A B C D q) :=
  ⟨fun _ _ x y ⟨u, v, w, z, h, h1, h2, h3, h4, _⟩ ⟨u', v', w', z', h', h1', h2', h3', h4', _⟩ => by rw [h] at h'; cases h'; exact Prod.ext (A.uniq h1 h1') (Prod.ext (B.uniq h2 h2') (Prod.ext (C.uniq h3 h3') (D.uniq h4 h4'))), fun _ _ _ _ hg ⟨u, v, w, z, h, h1, h2, h3, h4, h5⟩ => ⟨u, v, w, z, h, A.grow hg h1, B.grow hg h2, C.grow hg h3, D.grow hg h4, h5⟩⟩
theorem pick25 : Sound Try.prog 25 id (gsca (args4 intRd intRd (slU u16E) natRd fun lo hi l _ => 0 ≤ lo ∧ lo ≤ hi ∧ hi ≤ 1000000 ∧ ∀ m ∈ l, m < 65536) fun x v => ∃ k, v = I k ∧ x.1 ≤ k ∧ k ≤ x.2.1) := by
  refine comp25.gsca tabA (fun args G s h => ?_) (fun args G x h => ?_)
  · obtain ⟨u, v, w, z, rfl, _⟩ := h; simp
  · obtain ⟨lo, hi, l, k⟩ := x
    obtain ⟨u, v, w, z, rfl, rfl, rfl, ⟨a, n, c, rfl, hl⟩, rfl, h0, h1, h2, h3⟩ := h
    simp only at hl h0 h1 h2 h3
    have e1 := hl.len
    dsimp only
    (conv => whnf)
    refine IteP.mk (fun hz => W.mk ?_) (fun hz => W.mk ?_) <;> (conv => whnf)
    · refine FinP.mk ?_
      exact ⟨lo, rfl, Int.le_refl _, h1⟩
    · have hkm : 0 ≤ (k : Int) % (n : Int) ∧ (k : Int) % (n : Int) < n := ⟨Int.emod_nonneg _ (by omega), Int.emod_lt_of_pos _ (by omega)⟩
      obtain ⟨j, hj⟩ : ∃ j : Nat, (k : Int) % (n : Int) = j := ⟨((k : Int) % (n : Int)).toNat, by omega⟩
      have hlt : j < l.length := by omega
      have hc := hl.el hlt
      have hm := h3 _ (List.getElem_mem hlt)
      generalize l[j] = m at hc hm
      have hq1 := Int.emod_nonneg (m : Int) (show hi - lo + 1 ≠ 0 by omega)
      have hq2 := Int.emod_lt_of_pos (m : Int) (show 0 < hi - lo + 1 by omega)
      (refine OblP.mk ?_ (W.mk ?_); (first | trivial | omega | (simp only [inR]; omega) | exact Nat.le_of_ble_eq_true (by rfl) | exact SlR.some (by assumption) (by omega)); (conv => whnf))
      rw [hj]
      repeat' (first | (refine OblP.mk ?_ (W.mk ?_); (first | trivial | omega | (simp only [inR]; omega) | exact Nat.le_of_ble_eq_true (by rfl) | exact SlR.some (by assumption) (by omega)); (conv => whnf)) | (first | (refine RdP.at (by assumption) (by rfl) (W.mk ?_); (conv => whnf)) | (refine RdP.sub (by assumption) (by rfl) (W.mk ?_); (conv => whnf)) | (refine RdP.sub2 (by assumption) (by rfl) (W.mk ?_); (conv => whnf)) | (refine RdP.sub3 (by assumption) (by rfl) (W.mk ?_); (conv => whnf))))
      refine FinP.mk ?_
      refine ⟨_, rfl, ?_, ?_⟩
      · omega
      · omega
end Go.Proofs.Ytcmhpndhloplpaa

namespace Go.Proofs.Ytcmhpndhloplpaa
open Go.Pal

set_option maxRecDepth 100000

def slowE : El Slow := ⟨2, fun p => [I p.slow, I p.delay], fun {x y} h => by cases x; cases y; simp at h; simp [h], fun _ => rfl, fun _ v hv => by simp at hv; rcases hv with rfl | rfl <;> rfl⟩
def repN (o : Off) (i : Int) : Rep := o.crew.getD i.toNat ⟨0, 0, 0⟩
def realF (o : Off) (r : Int) (p : Slow) : Bool := inF p.slow (repN o r).lo (repN o r).hi && inF p.delay 0 o.delay
def realsF (o : Off) (l : List Int) (r : List Slow) : Bool := (List.range r.length).all fun i => realF o (l.getD i 0) (r.getD i ⟨0, 0⟩)
def doneE (s : Sit) (o : Off) (l : List Int) (r : List Slow) : Int := if errW s o = 0 then (if listedF (wkF s o) l = true then (if r.length = l.length then (if realsF o l r = true then 0 else 1) else 1) else 2) else errW s o
def donesF (t : List Span) (r : List Slow) (k : Nat) : List Int := (List.range k).map fun i => doneF (t.getD i ⟨0, 0⟩) (r.getD i ⟨0, 0⟩)
def DoneR (G : Hp) (v : Value) (s : Sit) (o : Off) (l : List Int) (r : List Slow) : Prop := ∃ w, v = .tuple #[w, I (doneE s o l r)] ∧ (if doneE s o l r = 0 then SlV intE G w (donesF (takesF s) r r.length) else w = .slice none 0 0)
theorem DoneR.grow {G G' : Hp} {v : Value} {s : Sit} {o : Off} {l r} (hg : Grow G G') (h : DoneR G v s o l r) : DoneR G' v s o l r := by
  obtain ⟨w, h1, h2⟩ := h
  refine ⟨w, h1, ?_⟩
  split at h2
  · rename_i he; rw [if_pos he]; exact SlV.grow hg h2
  · rename_i he; rw [if_neg he]; exact h2
theorem DoneR.bad {G : Hp} {s : Sit} {o : Off} {l : List Int} {r : List Slow} {e : Int} (h : doneE s o l r = e) (hne : e ≠ 0) : DoneR G (.tuple #[.slice none 0 0, I e]) s o l r := ⟨_, by rw [h], by rw [if_neg (by rw [h]; exact hne)]⟩
theorem done26 : Sound Try.prog 26 id (grel (args4 sitRd offRd (slRd intE) (slRd slowE) fun s _ _ _ => Calm s) fun x v G => DoneR G v x.1 x.2.1 x.2.2.1 x.2.2.2) := by
  refine comp26.grel (Tab.cons 47 _ done47 body47 (Tab.cons 37 inS in37 body37 tabD3)) (ok4 _ _ _ _ _) (fun args G s h => ?_) (fun x v G G' hg h => DoneR.grow hg h) (fun args G x h => ?_)
  · obtain ⟨u, v, w, z, rfl, _⟩ := h; simp
  · obtain ⟨s, o, l, r⟩ := x
    obtain ⟨u, v, w, z, rfl, ⟨w1, rfl, a, n, c, rfl, hl, hn⟩, ⟨w2, rfl, a2, n2, c2, rfl, hl2, hn2⟩, hr, hq, hcalm⟩ := h
    simp only at hl hl2 hcalm hr hq
    have hr0 := hr
    have hq0 := hq
    obtain ⟨ra, rn, rc, rfl, rl, hrn⟩ := hr
    obtain ⟨qa, qn, qc, rfl, ql, hqn⟩ := hq
    dsimp only
    (conv => whnf)
    refine RelP.g (ok2 sitRd offRd fun s _ => Calm s) (x := (s, o)) ⟨_, _, rfl, ⟨_, rfl, a, n, c, rfl, hl, hn⟩, ⟨_, rfl, a2, n2, c2, rfl, hl2, hn2⟩, hcalm⟩ (Grow.refl _) (fun v G1 hg1 hq => W.mk ?_)
    obtain ⟨w, rfl, hq⟩ := hq
    simp only at hq
    dsimp only
    replace hr0 := hr0.grow hg1
    replace hq0 := hq0.grow hg1
    replace rl := SlR.grow (G := G) (G' := G1) (fun _ _ h => h) rl hg1
    replace ql := SlR.grow (G := G) (G' := G1) (fun _ _ h => h) ql hg1
    have el := rl.len
    have eq := ql.len
    split at hq
    · rename_i he
      obtain ⟨hf, hc, ht⟩ := fine0 he
      have hw0 := hq
      obtain ⟨b, v1, v2, v3, rfl, cw, _, ⟨a4, n4, c4, rfl, l4, hn4⟩, ⟨a3, n3, c3, rfl, l3, hn3⟩⟩ := hq
      have e3 : (takesF s).length = n3 := l3.len
      have e4 : o.crew.length = n4 := l4.len
      (conv => whnf)
      refine IteP.mk (fun h => W.mk ?_) (fun h => absurd he h)
      (conv => whnf)
      refine ScaP.g (ok2 workRd (slRd intE) fun _ _ => True) (x := (wkF s o, l)) ⟨_, _, rfl, hw0, hr0, trivial⟩ (fun v hv => W.mk ?_)
      subst hv
      (conv => whnf)
      refine ForkP.mk (fun h1 => W.mk ?_) (fun h1 => W.mk ?_) <;> (conv => whnf)
      · simp only at h1
        refine IteP.mk (fun hlen => W.mk ?_) (fun hlen => W.mk ?_) <;> (conv => whnf)
        · have hT : (takesF s).length = l.length := by simp only [listedF, Bool.and_eq_true, decide_eq_true_eq] at h1; exact h1.1.symm
          have hrl : r.length = l.length := by omega
          have hmem : ∀ j ∈ l, 0 ≤ j ∧ j < n4 := fun j hj => by
            simp only [listedF, Bool.and_eq_true, List.all_eq_true, memF, inF, decide_eq_true_eq] at h1
            have := h1.2 j hj
            simp only [wkF] at this; omega
          refine LoopP.of { α := Nat × Nat × List Value, fr := fun x => [(2, .v (.slice ra rn rc)), (10, .v (.pointer (some ⟨b, 0, none⟩))), (12, .c (.row 2 x.2.1)), (37, .v (.slice qa qn qc)), (38, .v (I qn)), (39, .v (I x.1))], H := fun x => [(2, .row none x.2.1 x.2.2 3 1)], ok := fun x _ => x.1 ≤ r.length ∧ Row intE (donesF (takesF s) r x.1) x.2.1 x.2.2 ∧ ∀ i, i < x.1 → realF o (l.getD i 0) (r.getD i ⟨0, 0⟩) = true, m := fun x => r.length - x.1 }
            (0, 0, []) (HeadP.of [(2, none)] ⟨rfl, rfl, rfl, rfl, rfl, rfl, trivial⟩ ⟨rfl, trivial⟩) ⟨Nat.zero_le _, Row.nil, fun i h => absurd h (Nat.not_lt_zero _)⟩ (fun _ => ⟨rfl, rfl⟩) (fun x G2 hG hx => W.mk ?_)
          obtain ⟨i, m, vs⟩ := x
          obtain ⟨hi, hr, hall⟩ := hx
          dsimp only at hi hr hall
          dsimp only
          replace hw0 := WorkV.grow hG hw0
          replace cw := cw.grow hG
          replace rl := SlR.grow (G := G1) (G' := G2) (fun _ _ h => h) rl hG
          replace ql := SlR.grow (G := G1) (G' := G2) (fun _ _ h => h) ql hG
          replace l4 := SlR.grow (G := G1) (G' := G2) (fun _ _ h => h) l4 hG
          replace l3 := SlR.grow (G := G1) (G' := G2) (fun _ _ h => h) l3 hG
          (conv => whnf)
          refine IteP.mk (fun hlt => W.mk ?_) (fun hge => W.mk ?_) <;> (conv => whnf)
          · have hlt : i < r.length := by omega
            have hil : i < l.length := by omega
            have hit : i < (takesF s).length := by omega
            have hc1 := ql.el hlt
            have hc2 := rl.el hil
            have hc3 := l3.el hit
            have hj := hmem _ (List.getElem_mem hil)
            have hjn : l[i].toNat < o.crew.length := by omega
            have hc4 := l4.el hjn
            have hrep : repN o (l.getD i 0) = o.crew[l[i].toNat] := by simp [repN, hil, hjn]
            have hreal : realF o (l.getD i 0) (r.getD i ⟨0, 0⟩) = (inF r[i].slow o.crew[l[i].toNat].lo o.crew[l[i].toNat].hi && inF r[i].delay 0 o.delay) := by rw [realF, hrep]; simp [hlt]
            have hbad : (inF r[i].slow o.crew[l[i].toNat].lo o.crew[l[i].toNat].hi && inF r[i].delay 0 o.delay) = false → doneE s o l r = 1 := fun hb => by
              rw [doneE, if_pos he, if_pos h1, if_pos hrl, if_neg]
              rw [realsF, List.all_eq_true]
              intro hh
              have := hh i (List.mem_range.2 hlt)
              rw [hreal, hb] at this; cases this
            repeat' (first | (refine OblP.mk ?_ (W.mk ?_); (first | trivial | omega | (simp only [inR]; omega) | exact Nat.le_of_ble_eq_true (by rfl) | exact SlR.some (by assumption) (by omega)); (conv => whnf)) | (first | (refine RdP.at (by assumption) (by rfl) (W.mk ?_); (conv => whnf)) | (refine RdP.sub (by assumption) (by rfl) (W.mk ?_); (conv => whnf)) | (refine RdP.sub2 (by assumption) (by rfl) (W.mk ?_); (conv => whnf)) | (refine RdP.sub3 (by assumption) (by rfl) (W.mk ?_); (conv => whnf))))
            refine OblP.mk ⟨_, _, _, rfl⟩ (W.mk ?_); (conv => whnf)
            refine ForkP.mk (fun h2 => W.mk ?_) (fun h2 => W.mk ?_) <;> (conv => whnf)
            · repeat' (first | (refine OblP.mk ?_ (W.mk ?_); (first | trivial | omega | (simp only [inR]; omega) | exact Nat.le_of_ble_eq_true (by rfl) | exact SlR.some (by assumption) (by omega)); (conv => whnf)) | (first | (refine RdP.at (by assumption) (by rfl) (W.mk ?_); (conv => whnf)) | (refine RdP.sub (by assumption) (by rfl) (W.mk ?_); (conv => whnf)) | (refine RdP.sub2 (by assumption) (by rfl) (W.mk ?_); (conv => whnf)) | (refine RdP.sub3 (by assumption) (by rfl) (W.mk ?_); (conv => whnf))))
              refine OblP.mk ⟨_, _, _, rfl⟩ (W.mk ?_); (conv => whnf)
              refine ForkP.mk (fun h3 => W.mk ?_) (fun h3 => W.mk ?_) <;> (conv => whnf)
              · repeat' (first | (refine OblP.mk ?_ (W.mk ?_); (first | trivial | omega | (simp only [inR]; omega) | exact Nat.le_of_ble_eq_true (by rfl) | exact SlR.some (by assumption) (by omega)); (conv => whnf)) | (first | (refine RdP.at (by assumption) (by rfl) (W.mk ?_); (conv => whnf)) | (refine RdP.sub (by assumption) (by rfl) (W.mk ?_); (conv => whnf)) | (refine RdP.sub2 (by assumption) (by rfl) (W.mk ?_); (conv => whnf)) | (refine RdP.sub3 (by assumption) (by rfl) (W.mk ?_); (conv => whnf))))
                have hok : realF o (l.getD i 0) (r.getD i ⟨0, 0⟩) = true := by
                  rw [hreal]
                  have h2 : inF r[i].slow o.crew[l[i].toNat].lo o.crew[l[i].toNat].hi = true := h2
                  have h3 : inF r[i].delay 0 o.delay = true := h3
                  rw [h2, h3]; rfl
                have f3 := hf.t _ (List.getElem_mem hit)
                have f2 := hf.r _ (List.getElem_mem hjn)
                have fd := hf.delay
                have h2' : inF r[i].slow o.crew[l[i].toNat].lo o.crew[l[i].toNat].hi = true := h2
                have h3' : inF r[i].delay 0 o.delay = true := h3
                simp only [inF, decide_eq_true_eq] at h2' h3'
                have hl1 : Little r[i].slow := ⟨by have : 0 ≤ o.crew[l[i].toNat].lo := f2.1.1; omega, by have : o.crew[l[i].toNat].hi ≤ 1000000 := f2.2.1.2; omega⟩
                have hl2 : Little r[i].delay := ⟨h3'.1, by have : o.delay ≤ 1000000 := fd.2; omega⟩
                refine ScaP.g (ok2 spanRd slowRd fun p s => Little p.fr ∧ Little p.to ∧ Little s.slow ∧ Little s.delay) (x := ((takesF s)[i], r[i])) ⟨_, _, rfl, rfl, rfl, f3.1, f3.2, hl1, hl2⟩ (fun v hv => W.mk ?_)
                subst hv
                have hm := hr.n
                simp only [donesF, List.length_map, List.length_range] at hm
                (conv => whnf)
                repeat' (first | (refine OblP.mk ?_ (W.mk ?_); (first | trivial | omega | (simp only [inR]; omega) | exact Nat.le_of_ble_eq_true (by rfl) | exact SlR.some (by assumption) (by omega)); (conv => whnf)) | (first | (refine RdP.at (by assumption) (by rfl) (W.mk ?_); (conv => whnf)) | (refine RdP.sub (by assumption) (by rfl) (W.mk ?_); (conv => whnf)) | (refine RdP.sub2 (by assumption) (by rfl) (W.mk ?_); (conv => whnf)) | (refine RdP.sub3 (by assumption) (by rfl) (W.mk ?_); (conv => whnf))))
                refine RoundP.of (i + 1, m + 1, vs ++ [I (doneF (takesF s)[i] r[i])]) (HeadP.of [(2, some 90)] ⟨rfl, rfl, rfl, rfl, rfl, rfl, trivial⟩ ⟨rfl, trivial⟩) ⟨hlt, ?_, fun k hk => ?_⟩ (by simp only; omega)
                · have e : donesF (takesF s) r (i + 1) = donesF (takesF s) r i ++ [doneF (takesF s)[i] r[i]] := by
                    rw [donesF, List.range_succ, List.map_append]; simp [donesF, hlt, hit]
                  show Row intE (donesF (takesF s) r (i + 1)) _ _
                  rw [e]; exact hr.snoc _
                · by_cases hki : k = i
                  · subst hki; exact hok
                  · exact hall k (by simp only at hk; omega)
              · refine FinP.mk ?_
                refine DoneR.bad (hbad ?_) (by decide)
                have h3 : inF r[i].delay 0 o.delay = false := h3
                rw [h3, Bool.and_false]
            · refine FinP.mk ?_
              refine DoneR.bad (hbad ?_) (by decide)
              have h2 : inF r[i].slow o.crew[l[i].toNat].lo o.crew[l[i].toNat].hi = false := h2
              rw [h2, Bool.false_and]
          · have : i = r.length := by omega
            subst this
            have hm := hr.n
            simp only [donesF, List.length_map, List.length_range] at hm
            refine PubP.mk (fun a1 c1 G3 hg3 hp => W.mk ?_)
            (conv => whnf)
            refine FinP.mk ?_
            have e0 : doneE s o l r = 0 := by
              rw [doneE, if_pos he, if_pos h1, if_pos hrl, if_pos]
              rw [realsF, List.all_eq_true]
              exact fun k hk => hall k (List.mem_range.1 hk)
            refine ⟨_, by rw [e0]; rfl, ?_⟩
            rw [if_pos e0]
            exact hr.pub hp (by omega)
        · refine FinP.mk ?_
          exact DoneR.bad (by rw [doneE, if_pos he, if_pos h1, if_neg (by omega)]) (by decide)
      · refine FinP.mk ?_
        have h1 : listedF (wkF s o) l = false := h1
        exact DoneR.bad (by rw [doneE, if_pos he, if_neg (by rw [h1]; decide)]) (by decide)
    · rename_i he
      subst hq
      (conv => whnf)
      refine IteP.mk (fun h => absurd h he) (fun h => W.mk ?_)
      (conv => whnf)
      refine FinP.mk ?_
      exact DoneR.bad (by rw [doneE, if_neg he]) he
end Go.Proofs.Ytcmhpndhloplpaa

namespace Go.Proofs.Ytcmhpndhloplpaa
open Go.Pal

set_option maxRecDepth 100000

def beforeF (m : Int) (t : List Span) : Nat := (t.takeWhile fun p => decide (p.fr < m)).length
def openB (x : Wk) (l : List Int) (k m : Int) (i : Nat) : Bool := decide (l.getD i 0 = k) && decide (m < doneW x i k.toNat)
def openF (x : Wk) (l : List Int) (k m : Int) (n : Nat) : List Int := ((List.range n).filter (openB x l k m)).map fun i : Nat => (i : Int)
def relA (x : Wk) (l : List Int) (k m : Int) : List Int := restF x (l.take (beforeF m x.t)) k
def relE (s : Sit) (o : Off) (l : List Int) (k m : Int) : Int := if errW s o = 0 then (if listedF (wkF s o) l = true then (if rightF (wkF s o) l = true then (if inF k 0 ((o.crew.length : Int) - 1) = true ∧ inF m 0 s.len = true then (if (relA (wkF s o) l k m).length < (takesF s).length then 7 else 0) else 2) else 9) else 2) else errW s o
def RelR (G : Hp) (v : Value) (s : Sit) (o : Off) (l : List Int) (k m : Int) : Prop := ∃ w1 w2, v = .tuple #[w1, w2, I (relE s o l k m)] ∧ (if relE s o l k m = 0 then SlV intE G w1 (relA (wkF s o) l k m) ∧ SlV intE G w2 (openF (wkF s o) l k m (beforeF m (takesF s))) else w1 = .slice none 0 0 ∧ w2 = .slice none 0 0)
theorem RelR.grow {G G' : Hp} {v : Value} {s : Sit} {o : Off} {l k m} (hg : Grow G G') (h : RelR G v s o l k m) : RelR G' v s o l k m := by
  obtain ⟨w1, w2, h1, h2⟩ := h
  refine ⟨w1, w2, h1, ?_⟩
  split at h2
  · rename_i he; rw [if_pos he]; exact ⟨SlV.grow hg h2.1, SlV.grow hg h2.2⟩
  · rename_i he; rw [if_neg he]; exact h2
theorem RelR.bad {G : Hp} {s : Sit} {o : Off} {l : List Int} {k m e : Int} (h : relE s o l k m = e) (hne : e ≠ 0) : RelR G (.tuple #[.slice none 0 0, .slice none 0 0, I e]) s o l k m := ⟨_, _, by rw [h], by rw [if_neg (by rw [h]; exact hne)]; exact ⟨rfl, rfl⟩⟩
abbrev args5 {α β γ δ ε : Type} (A : Rd α) (B : Rd β) (C : Rd γ) (D : Rd δ) (E : Rd ε) (q : α → β → γ → δ → ε → Prop) : GRel (α × β × γ × δ × ε) := fun args G x => ∃ u v w z y, args = [u, v, w, z, y] ∧ A.R G u x.1 ∧ B.R G v x.2.1 ∧ C.R G w x.2.2.1 ∧ D.R G z x.2.2.2.1 ∧ E.R G y x.2.2.2.2 ∧ q x.1 x.2.1 x.2.2.1 x.2.2.2.1 x.2.2.2.2
theorem ok5 {α β γ δ ε : Type} (A : Rd α) (B : Rd β) (C : Rd γ) (D : Rd δ) (E : Rd ε) (q : α → β → γ → δ → ε → Prop) : GOk (args5 A B C D E q) :=
  ⟨fun _ _ x y ⟨u, v, w, z, t, h, h1, h2, h3, h4, h5, _⟩ ⟨u', v', w', z', t', h', h1', h2', h3', h4', h5', _⟩ => by rw [h] at h'; cases h'; exact Prod.ext (A.uniq h1 h1') (Prod.ext (B.uniq h2 h2') (Prod.ext (C.uniq h3 h3') (Prod.ext (D.uniq h4 h4') (E.uniq h5 h5')))), fun _ _ _ _ hg ⟨u, v, w, z, t, h, h1, h2, h3, h4, h5, h6⟩ => ⟨u, v, w, z, t, h, A.grow hg h1, B.grow hg h2, C.grow hg h3, D.grow hg h4, E.grow hg h5, h6⟩⟩
theorem before_next {m : Int} : ∀ {t : List Span} {n : Nat}, n ≤ t.length → (∀ i (h : i < t.length), i < n → t[i].fr < m) → (∀ h : n < t.length, ¬ t[n].fr < m) → beforeF m t = n
  | [], n, hn, _, _ => by simp at hn; subst hn; rfl
  | p :: r, 0, _, _, h => by
    have := h (by simp)
    simp only [List.getElem_cons_zero] at this
    simp [beforeF, List.takeWhile_cons, this]
  | p :: r, n + 1, hn, h1, h2 => by
    have h0 := h1 0 (by simp) (by omega)
    simp only [List.getElem_cons_zero] at h0
    have ih := before_next (m := m) (t := r) (n := n) (by simpa using hn) (fun i h hi => h1 (i + 1) (by simpa using h) (by omega)) (fun h => h2 (by simpa using h))
    simp only [beforeF, List.takeWhile_cons, h0, decide_true, if_true, List.length_cons] at *
    omega
theorem cutTake {α : Type} {e : El α} {G : Hp} {a : Option Addr} {n c i : Nat} {l : List α} (h : SlR e.k e.R G a n c l) (hi : i ≤ n) (hn : n ≤ 140737488355328) {k : Nat} : SlV e G (.slice (cutA a (0 : Int).toNat (c : Int).toNat k) ((i : Int).toNat - (0 : Int).toNat) ((c : Int).toNat - (0 : Int).toNat)) (l.take i) := by
  have hl := h.len
  have e1 : i ≠ 0 → cutA a (0 : Int).toNat (c : Int).toNat k = a := fun h0 => by
    unfold cutA
    split
    · rfl
    · rw [h.some (by omega)]
      simp [Addr.add]
  refine ⟨_, _, _, rfl, ⟨by simp; omega, by have := h.cap; simp; omega, fun h0 => ?_, fun j hj => ?_⟩, by simp; omega⟩
  · rw [e1 (by simpa using h0)]
    exact h.some (by simp at h0; omega)
  · have hj' : j < i := by simp at hj; omega
    rw [e1 (by omega)]
    have hjl : j < l.length := by omega
    obtain ⟨cs, q1, q2, q3⟩ := h.at_ j hjl
    exact ⟨cs, q1, q2, by rw [List.getElem_take]; exact q3⟩
theorem open_succ {x : Wk} {l : List Int} {k m : Int} {i : Nat} : openF x l k m (i + 1) = openF x l k m i ++ (if openB x l k m i = true then [(i : Int)] else []) := by
  rw [openF, List.range_succ, List.filter_append, List.map_append, List.filter_cons]
  split <;> rfl
theorem relieve27 : Sound Try.prog 27 id (grel (args5 sitRd offRd (slRd intE) intRd intRd fun s _ _ _ _ => Calm s) fun x v G => RelR G v x.1 x.2.1 x.2.2.1 x.2.2.2.1 x.2.2.2.2) := by
  refine comp27.grel (Tab.cons 48 _ worst48 body48 (Tab.cons 37 inS in37 body37 tabD3)) (ok5 _ _ _ _ _ _) (fun args G s h => ?_) (fun x v G G' hg h => RelR.grow hg h) (fun args G x h => ?_)
  · obtain ⟨u, v, w, z, y, rfl, _⟩ := h; simp
  · obtain ⟨s, o, l, k, m⟩ := x
    obtain ⟨u, v, w, z, y, rfl, ⟨w1, rfl, a, n, c, rfl, hl, hn⟩, ⟨w2, rfl, a2, n2, c2, rfl, hl2, hn2⟩, hr, rfl, rfl, hcalm⟩ := h
    simp only at hl hl2 hcalm hr
    have hr0 := hr
    obtain ⟨ra, rn, rc, rfl, rl, hrn⟩ := hr
    dsimp only
    (conv => whnf)
    refine RelP.g (ok2 sitRd offRd fun s _ => Calm s) (x := (s, o)) ⟨_, _, rfl, ⟨_, rfl, a, n, c, rfl, hl, hn⟩, ⟨_, rfl, a2, n2, c2, rfl, hl2, hn2⟩, hcalm⟩ (Grow.refl _) (fun v G1 hg1 hq => W.mk ?_)
    obtain ⟨w, rfl, hq⟩ := hq
    simp only at hq
    dsimp only
    replace hr0 := hr0.grow hg1
    replace rl := SlR.grow (G := G) (G' := G1) (fun _ _ h => h) rl hg1
    have el := rl.len
    split at hq
    · rename_i he
      obtain ⟨hf, hc, ht⟩ := fine0 he
      have hw0 := hq
      obtain ⟨b, v1, v2, v3, rfl, cw, _, ⟨a4, n4, c4, rfl, l4, hn4⟩, ⟨a3, n3, c3, rfl, l3, hn3⟩⟩ := hq
      have e3 : (takesF s).length = n3 := l3.len
      have e4 : o.crew.length = n4 := l4.len
      (conv => whnf)
      refine IteP.mk (fun h => W.mk ?_) (fun h => absurd he h)
      (conv => whnf)
      refine ScaP.g (ok2 workRd (slRd intE) fun _ _ => True) (x := (wkF s o, l)) ⟨_, _, rfl, hw0, hr0, trivial⟩ (fun v hv => W.mk ?_)
      subst hv
      (conv => whnf)
      refine ForkP.mk (fun h1 => W.mk ?_) (fun h1 => W.mk ?_) <;> (conv => whnf)
      · have h1 : listedF (wkF s o) l = true := h1
        refine ScaP.g (ok2 workRd (slRd intE) fun x l => Fine x ∧ x.o.crew.length ≤ 5 ∧ x.t.length ≤ 1000000 ∧ listedF x l = true) (x := (wkF s o, l)) ⟨_, _, rfl, hw0, hr0, hf, hc.2, by show (takesF s).length ≤ _; omega, h1⟩ (fun v hv => W.mk ?_)
        subst hv
        have hT : (takesF s).length = l.length := by have h1 := h1; simp only [listedF, Bool.and_eq_true, decide_eq_true_eq] at h1; exact h1.1.symm
        have hmem : ∀ j ∈ l, 0 ≤ j ∧ j < n4 := fun j hj => by
          have h1 := h1
          simp only [listedF, Bool.and_eq_true, List.all_eq_true, memF, inF, decide_eq_true_eq] at h1
          have := h1.2 j hj
          simp only [wkF] at this; omega
        (conv => whnf)
        refine ForkP.mk (fun h2 => W.mk ?_) (fun h2 => W.mk ?_) <;> (conv => whnf)
        · have h2 : rightF (wkF s o) l = true := h2
          have hbad : ¬ (inF k 0 ((o.crew.length : Int) - 1) = true ∧ inF m 0 s.len = true) → relE s o l k m = 2 := fun hb => by rw [relE, if_pos he, if_pos h1, if_pos h2, if_neg hb]
          repeat' (first | (refine OblP.mk ?_ (W.mk ?_); (first | trivial | omega | (simp only [inR]; omega) | exact Nat.le_of_ble_eq_true (by rfl) | exact SlR.some (by assumption) (by omega)); (conv => whnf)) | (first | (refine RdP.at (by assumption) (by rfl) (W.mk ?_); (conv => whnf)) | (refine RdP.sub (by assumption) (by rfl) (W.mk ?_); (conv => whnf)) | (refine RdP.sub2 (by assumption) (by rfl) (W.mk ?_); (conv => whnf)) | (refine RdP.sub3 (by assumption) (by rfl) (W.mk ?_); (conv => whnf))))
          refine OblP.mk ⟨_, _, _, rfl⟩ (W.mk ?_); (conv => whnf)
          refine ForkP.mk (fun h3 => W.mk ?_) (fun h3 => W.mk ?_) <;> (conv => whnf)
          · have h3 : inF k 0 ((n4 : Int) - 1) = true := h3
            repeat' (first | (refine OblP.mk ?_ (W.mk ?_); (first | trivial | omega | (simp only [inR]; omega) | exact Nat.le_of_ble_eq_true (by rfl) | exact SlR.some (by assumption) (by omega)); (conv => whnf)) | (first | (refine RdP.at (by assumption) (by rfl) (W.mk ?_); (conv => whnf)) | (refine RdP.sub (by assumption) (by rfl) (W.mk ?_); (conv => whnf)) | (refine RdP.sub2 (by assumption) (by rfl) (W.mk ?_); (conv => whnf)) | (refine RdP.sub3 (by assumption) (by rfl) (W.mk ?_); (conv => whnf))))
            refine OblP.mk ⟨_, _, _, rfl⟩ (W.mk ?_); (conv => whnf)
            refine ForkP.mk (fun h4 => W.mk ?_) (fun h4 => W.mk ?_) <;> (conv => whnf)
            · have h4 : inF m 0 s.len = true := h4
              have hE : relE s o l k m = if (relA (wkF s o) l k m).length < (takesF s).length then 7 else 0 := by rw [relE, if_pos he, if_pos h1, if_pos h2, if_pos ⟨by rw [e4]; exact h3, h4⟩]
              simp only [inF, decide_eq_true_eq] at h3 h4
              obtain ⟨k, rfl⟩ : ∃ k' : Nat, k = k' := ⟨k.toNat, by omega⟩
              have hk : k < o.crew.length := by omega
              refine LoopP.of { α := Nat × Nat × List Value, fr := fun x => [(2, .v (.slice ra rn rc)), (3, .v (I k)), (4, .v (I m)), (11, .c (.row 2 x.2.1)), (13, .v (.pointer (some ⟨b, 0, none⟩))), (14, .v (I x.1))], H := fun x => [(2, .row none x.2.1 x.2.2 3 1)], ok := fun x _ => x.1 ≤ (takesF s).length ∧ Row intE (openF (wkF s o) l k m x.1) x.2.1 x.2.2 ∧ ∀ i (h : i < (takesF s).length), i < x.1 → (takesF s)[i].fr < m, m := fun x => (takesF s).length - x.1 }
                (0, 0, []) (HeadP.of [(2, none)] ⟨rfl, rfl, rfl, rfl, rfl, rfl, trivial⟩ ⟨rfl, trivial⟩) ⟨Nat.zero_le _, Row.nil, fun i h h' => absurd h' (Nat.not_lt_zero _)⟩ (fun _ => ⟨rfl, rfl⟩) (fun x G2 hG hx => W.mk ?_)
              obtain ⟨i, q, vs⟩ := x
              obtain ⟨hi, hr, hall⟩ := hx
              dsimp only at hi hr hall
              dsimp only
              replace hw0 := WorkV.grow hG hw0
              replace cw := cw.grow hG
              replace rl := SlR.grow (G := G1) (G' := G2) (fun _ _ h => h) rl hG
              replace l4 := SlR.grow (G := G1) (G' := G2) (fun _ _ h => h) l4 hG
              replace l3 := SlR.grow (G := G1) (G' := G2) (fun _ _ h => h) l3 hG
              (conv => whnf)
              repeat' (first | (refine OblP.mk ?_ (W.mk ?_); (first | trivial | omega | (simp only [inR]; omega) | exact Nat.le_of_ble_eq_true (by rfl) | exact SlR.some (by assumption) (by omega)); (conv => whnf)) | (first | (refine RdP.at (by assumption) (by rfl) (W.mk ?_); (conv => whnf)) | (refine RdP.sub (by assumption) (by rfl) (W.mk ?_); (conv => whnf)) | (refine RdP.sub2 (by assumption) (by rfl) (W.mk ?_); (conv => whnf)) | (refine RdP.sub3 (by assumption) (by rfl) (W.mk ?_); (conv => whnf))))
              refine IteP.mk (fun hlt => W.mk ?_) (fun hge => W.mk ?_) <;> (conv => whnf)
              · have hit : i < (takesF s).length := by omega
                have hil : i < l.length := by omega
                have hc2 := rl.el hil
                have hc3 := l3.el hit
                have hgd : l.getD i 0 = l[i] := by simp [hil]
                repeat' (first | (refine OblP.mk ?_ (W.mk ?_); (first | trivial | omega | (simp only [inR]; omega) | exact Nat.le_of_ble_eq_true (by rfl) | exact SlR.some (by assumption) (by omega)); (conv => whnf)) | (first | (refine RdP.at (by assumption) (by rfl) (W.mk ?_); (conv => whnf)) | (refine RdP.sub (by assumption) (by rfl) (W.mk ?_); (conv => whnf)) | (refine RdP.sub2 (by assumption) (by rfl) (W.mk ?_); (conv => whnf)) | (refine RdP.sub3 (by assumption) (by rfl) (W.mk ?_); (conv => whnf))))
                refine IteP.mk (fun hfr => W.mk ?_) (fun hfr => W.mk ?_) <;> (conv => whnf)
                · have hm := hr.n
                  have hm2 : q ≤ i := by rw [hm, openF, List.length_map]; exact Nat.le_trans (List.length_filter_le _ _) (by simp)
                  have hnext : ∀ j (h : j < (takesF s).length), j < i + 1 → (takesF s)[j].fr < m := fun j h hj => by
                    by_cases hji : j = i
                    · subst hji; exact hfr
                    · exact hall j h (by omega)
                  repeat' (first | (refine OblP.mk ?_ (W.mk ?_); (first | trivial | omega | (simp only [inR]; omega) | exact Nat.le_of_ble_eq_true (by rfl) | exact SlR.some (by assumption) (by omega)); (conv => whnf)) | (first | (refine RdP.at (by assumption) (by rfl) (W.mk ?_); (conv => whnf)) | (refine RdP.sub (by assumption) (by rfl) (W.mk ?_); (conv => whnf)) | (refine RdP.sub2 (by assumption) (by rfl) (W.mk ?_); (conv => whnf)) | (refine RdP.sub3 (by assumption) (by rfl) (W.mk ?_); (conv => whnf))))
                  refine IteP.mk (fun hk1 => W.mk ?_) (fun hk1 => W.mk ?_) <;> (conv => whnf)
                  · refine ScaP.g (ok3 workRd natRd natRd fun x n i => Fine x ∧ n < x.t.length ∧ i < x.o.crew.length) (x := (wkF s o, i, k)) ⟨_, _, _, rfl, hw0, rfl, rfl, hf, hit, hk⟩ (fun v hv => W.mk ?_)
                    subst hv
                    (conv => whnf)
                    refine IteP.mk (fun hk2 => W.mk ?_) (fun hk2 => W.mk ?_) <;> (conv => whnf)
                    · repeat' (first | (refine OblP.mk ?_ (W.mk ?_); (first | trivial | omega | (simp only [inR]; omega) | exact Nat.le_of_ble_eq_true (by rfl) | exact SlR.some (by assumption) (by omega)); (conv => whnf)) | (first | (refine RdP.at (by assumption) (by rfl) (W.mk ?_); (conv => whnf)) | (refine RdP.sub (by assumption) (by rfl) (W.mk ?_); (conv => whnf)) | (refine RdP.sub2 (by assumption) (by rfl) (W.mk ?_); (conv => whnf)) | (refine RdP.sub3 (by assumption) (by rfl) (W.mk ?_); (conv => whnf))))
                      have hb : openB (wkF s o) l k m i = true := by
                        simp only [openB, Bool.and_eq_true, decide_eq_true_eq]
                        exact ⟨by rw [hgd]; exact hk1, by simpa using hk2⟩
                      refine RoundP.of (i + 1, q + 1, vs ++ [I i]) (HeadP.of [(2, some 97)] ⟨rfl, rfl, rfl, rfl, rfl, rfl, trivial⟩ ⟨rfl, trivial⟩) ⟨hit, ?_, hnext⟩ (by simp only; omega)
                      show Row intE (openF (wkF s o) l k m (i + 1)) _ _
                      rw [open_succ, if_pos hb]; exact hr.snoc _
                    · repeat' (first | (refine OblP.mk ?_ (W.mk ?_); (first | trivial | omega | (simp only [inR]; omega) | exact Nat.le_of_ble_eq_true (by rfl) | exact SlR.some (by assumption) (by omega)); (conv => whnf)) | (first | (refine RdP.at (by assumption) (by rfl) (W.mk ?_); (conv => whnf)) | (refine RdP.sub (by assumption) (by rfl) (W.mk ?_); (conv => whnf)) | (refine RdP.sub2 (by assumption) (by rfl) (W.mk ?_); (conv => whnf)) | (refine RdP.sub3 (by assumption) (by rfl) (W.mk ?_); (conv => whnf))))
                      have hb : ¬ openB (wkF s o) l k m i = true := by
                        simp only [openB, Bool.and_eq_true, decide_eq_true_eq]
                        exact fun h => hk2 (by simpa using h.2)
                      refine RoundP.of (i + 1, q, vs) (HeadP.of [] ⟨rfl, rfl, rfl, rfl, rfl, rfl, trivial⟩ ⟨rfl, trivial⟩) ⟨hit, ?_, hnext⟩ (by simp only; omega)
                      show Row intE (openF (wkF s o) l k m (i + 1)) _ _
                      rw [open_succ, if_neg hb, List.append_nil]; exact hr
                  · repeat' (first | (refine OblP.mk ?_ (W.mk ?_); (first | trivial | omega | (simp only [inR]; omega) | exact Nat.le_of_ble_eq_true (by rfl) | exact SlR.some (by assumption) (by omega)); (conv => whnf)) | (first | (refine RdP.at (by assumption) (by rfl) (W.mk ?_); (conv => whnf)) | (refine RdP.sub (by assumption) (by rfl) (W.mk ?_); (conv => whnf)) | (refine RdP.sub2 (by assumption) (by rfl) (W.mk ?_); (conv => whnf)) | (refine RdP.sub3 (by assumption) (by rfl) (W.mk ?_); (conv => whnf))))
                    have hb : ¬ openB (wkF s o) l k m i = true := by
                      simp only [openB, Bool.and_eq_true, decide_eq_true_eq]
                      exact fun h => hk1 (by rw [← hgd]; exact h.1)
                    refine RoundP.of (i + 1, q, vs) (HeadP.of [] ⟨rfl, rfl, rfl, rfl, rfl, rfl, trivial⟩ ⟨rfl, trivial⟩) ⟨hit, ?_, hnext⟩ (by simp only; omega)
                    show Row intE (openF (wkF s o) l k m (i + 1)) _ _
                    rw [open_succ, if_neg hb, List.append_nil]; exact hr
                · have hbef : beforeF m (takesF s) = i := before_next (by omega) hall (fun h => hfr)
                  have hcap := rl.cap
                  have hm := hr.n
                  have hm2 : q ≤ i := by rw [hm, openF, List.length_map]; exact Nat.le_trans (List.length_filter_le _ _) (by simp)
                  have hcut : ∀ {k}, SlV intE G2 (.slice (cutA ra (0 : Int).toNat (rc : Int).toNat k) ((i : Int).toNat - (0 : Int).toNat) ((rc : Int).toNat - (0 : Int).toNat)) (l.take i) := cutTake rl (by omega) hrn
                  repeat' (first | (refine OblP.mk ?_ (W.mk ?_); (first | trivial | omega | (simp only [inR]; omega) | exact Nat.le_of_ble_eq_true (by rfl) | exact SlR.some (by assumption) (by omega)); (conv => whnf)) | (first | (refine RdP.at (by assumption) (by rfl) (W.mk ?_); (conv => whnf)) | (refine RdP.sub (by assumption) (by rfl) (W.mk ?_); (conv => whnf)) | (refine RdP.sub2 (by assumption) (by rfl) (W.mk ?_); (conv => whnf)) | (refine RdP.sub3 (by assumption) (by rfl) (W.mk ?_); (conv => whnf))))
                  refine RelP.g (ok3 workRd (slRd intE) intRd fun x l _ => Fine x ∧ x.o.crew.length ≤ 5 ∧ x.t.length ≤ 1000000 ∧ l.length ≤ x.t.length ∧ ∀ j ∈ l, 0 ≤ j ∧ j < 5) (x := (wkF s o, l.take i, (k : Int))) ⟨_, _, _, rfl, hw0, hcut, rfl, hf, hc.2, by show (takesF s).length ≤ _; omega, by show (l.take i).length ≤ (takesF s).length; simp; omega, fun j hj => by have := hmem j (List.take_subset _ _ hj); omega⟩ (Grow.refl _) (fun v G3 hg3 hq2 => W.mk ?_)
                  obtain ⟨w4, rfl, a5, n5, c5, rfl, l5, hn5⟩ := hq2
                  have cw3 := cw.grow hg3
                  have e5 : (relA (wkF s o) l k m).length = n5 := by rw [relA, show (wkF s o).t = takesF s from rfl, hbef]; exact l5.len
                  (conv => whnf)
                  repeat' (first | (refine OblP.mk ?_ (W.mk ?_); (first | trivial | omega | (simp only [inR]; omega) | exact Nat.le_of_ble_eq_true (by rfl) | exact SlR.some (by assumption) (by omega)); (conv => whnf)) | (first | (refine RdP.at (by assumption) (by rfl) (W.mk ?_); (conv => whnf)) | (refine RdP.sub (by assumption) (by rfl) (W.mk ?_); (conv => whnf)) | (refine RdP.sub2 (by assumption) (by rfl) (W.mk ?_); (conv => whnf)) | (refine RdP.sub3 (by assumption) (by rfl) (W.mk ?_); (conv => whnf))))
                  refine IteP.mk (fun hlt2 => W.mk ?_) (fun hlt2 => W.mk ?_) <;> (conv => whnf)
                  · refine FinP.mk ?_
                    exact RelR.bad (by rw [hE, if_pos (by omega)]) (by decide)
                  · refine PubP.mk (fun a1 c1 G4 hg4 hp => W.mk ?_)
                    (conv => whnf)
                    refine FinP.mk ?_
                    have e0 : relE s o l k m = 0 := by rw [hE, if_neg (by omega)]
                    refine ⟨_, _, by rw [e0]; rfl, ?_⟩
                    rw [if_pos e0]
                    refine ⟨?_, ?_⟩
                    · rw [relA, show (wkF s o).t = takesF s from rfl, hbef]
                      exact SlV.grow hg4 ⟨a5, n5, c5, rfl, l5, hn5⟩
                    · rw [hbef]; exact hr.pub hp (by omega)
              · have hbef : beforeF m (takesF s) = i := before_next (by omega) hall (fun h => by omega)
                have hcap := rl.cap
                have hm := hr.n
                have hm2 : q ≤ i := by rw [hm, openF, List.length_map]; exact Nat.le_trans (List.length_filter_le _ _) (by simp)
                have hcut : ∀ {k}, SlV intE G2 (.slice (cutA ra (0 : Int).toNat (rc : Int).toNat k) ((i : Int).toNat - (0 : Int).toNat) ((rc : Int).toNat - (0 : Int).toNat)) (l.take i) := cutTake rl (by omega) hrn
                repeat' (first | (refine OblP.mk ?_ (W.mk ?_); (first | trivial | omega | (simp only [inR]; omega) | exact Nat.le_of_ble_eq_true (by rfl) | exact SlR.some (by assumption) (by omega)); (conv => whnf)) | (first | (refine RdP.at (by assumption) (by rfl) (W.mk ?_); (conv => whnf)) | (refine RdP.sub (by assumption) (by rfl) (W.mk ?_); (conv => whnf)) | (refine RdP.sub2 (by assumption) (by rfl) (W.mk ?_); (conv => whnf)) | (refine RdP.sub3 (by assumption) (by rfl) (W.mk ?_); (conv => whnf))))
                refine RelP.g (ok3 workRd (slRd intE) intRd fun x l _ => Fine x ∧ x.o.crew.length ≤ 5 ∧ x.t.length ≤ 1000000 ∧ l.length ≤ x.t.length ∧ ∀ j ∈ l, 0 ≤ j ∧ j < 5) (x := (wkF s o, l.take i, (k : Int))) ⟨_, _, _, rfl, hw0, hcut, rfl, hf, hc.2, by show (takesF s).length ≤ _; omega, by show (l.take i).length ≤ (takesF s).length; simp; omega, fun j hj => by have := hmem j (List.take_subset _ _ hj); omega⟩ (Grow.refl _) (fun v G3 hg3 hq2 => W.mk ?_)
                obtain ⟨w4, rfl, a5, n5, c5, rfl, l5, hn5⟩ := hq2
                have cw3 := cw.grow hg3
                have e5 : (relA (wkF s o) l k m).length = n5 := by rw [relA, show (wkF s o).t = takesF s from rfl, hbef]; exact l5.len
                (conv => whnf)
                repeat' (first | (refine OblP.mk ?_ (W.mk ?_); (first | trivial | omega | (simp only [inR]; omega) | exact Nat.le_of_ble_eq_true (by rfl) | exact SlR.some (by assumption) (by omega)); (conv => whnf)) | (first | (refine RdP.at (by assumption) (by rfl) (W.mk ?_); (conv => whnf)) | (refine RdP.sub (by assumption) (by rfl) (W.mk ?_); (conv => whnf)) | (refine RdP.sub2 (by assumption) (by rfl) (W.mk ?_); (conv => whnf)) | (refine RdP.sub3 (by assumption) (by rfl) (W.mk ?_); (conv => whnf))))
                refine IteP.mk (fun hlt2 => W.mk ?_) (fun hlt2 => W.mk ?_) <;> (conv => whnf)
                · refine FinP.mk ?_
                  exact RelR.bad (by rw [hE, if_pos (by omega)]) (by decide)
                · refine PubP.mk (fun a1 c1 G4 hg4 hp => W.mk ?_)
                  (conv => whnf)
                  refine FinP.mk ?_
                  have e0 : relE s o l k m = 0 := by rw [hE, if_neg (by omega)]
                  refine ⟨_, _, by rw [e0]; rfl, ?_⟩
                  rw [if_pos e0]
                  refine ⟨?_, ?_⟩
                  · rw [relA, show (wkF s o).t = takesF s from rfl, hbef]
                    exact SlV.grow hg4 ⟨a5, n5, c5, rfl, l5, hn5⟩
                  · rw [hbef]; exact hr.pub hp (by omega)
            · refine FinP.mk ?_
              refine RelR.bad (hbad fun hb => ?_) (by decide)
              have h4 : inF m 0 s.len = false := h4
              rw [h4] at hb; cases hb.2
          · refine FinP.mk ?_
            refine RelR.bad (hbad fun hb => ?_) (by decide)
            have h3 : inF k 0 ((n4 : Int) - 1) = false := h3
            rw [e4, h3] at hb; cases hb.1
        · refine FinP.mk ?_
          have h2 : rightF (wkF s o) l = false := h2
          exact RelR.bad (by rw [relE, if_pos he, if_pos h1, if_neg (by rw [h2]; decide)]) (by decide)
      · refine FinP.mk ?_
        have h1 : listedF (wkF s o) l = false := h1
        exact RelR.bad (by rw [relE, if_pos he, if_neg (by rw [h1]; decide)]) (by decide)
    · rename_i he
      subst hq
      (conv => whnf)
      refine IteP.mk (fun h => absurd h he) (fun h => W.mk ?_)
      (conv => whnf)
      refine FinP.mk ?_
      exact RelR.bad (by rw [relE, if_neg he]) he
end Go.Proofs.Ytcmhpndhloplpaa

namespace Go.Proofs.Ytcmhpndhloplpaa
open Go.Pal

section
variable {x : Wk} {skip : Int}
/-- A list that may be given, from a state on. -/
def Run (x : Wk) (skip : Int) : Stt → List Int → Prop
  | _, [] => True
  | s, j :: r => ∃ i : Nat, j = i ∧ i < x.o.crew.length ∧ canF x skip s i = true ∧ Run x skip (giveF s i) r
theorem goF_some {α : Type} {s : Stt} {rec : Stt → Option (List α)} {f : Nat → α} : ∀ {l : List Nat} {e : List α}, goF x skip s rec f l = some e → ∃ i ∈ l, ∃ e', canF x skip s i = true ∧ rec (giveF s i) = some e' ∧ e = f i :: e'
  | [], e, h => by cases h
  | i :: r, e, h => by
    unfold goF at h
    split at h
    · rename_i hc
      split at h
      · rename_i e' he
        cases h
        exact ⟨i, by simp, e', hc, he, rfl⟩
      · obtain ⟨j, h1, h2⟩ := goF_some h
        exact ⟨j, by simp [h1], h2⟩
    · obtain ⟨j, h1, h2⟩ := goF_some h
      exact ⟨j, by simp [h1], h2⟩
theorem goF_none {α : Type} {s : Stt} {rec : Stt → Option (List α)} {f : Nat → α} : ∀ {l : List Nat}, goF x skip s rec f l = none → ∀ i ∈ l, canF x skip s i = true → rec (giveF s i) = none
  | [], _, i, hi, _ => by cases hi
  | j :: r, h, i, hi, hc => by
    unfold goF at h
    rcases List.mem_cons.1 hi with rfl | hi
    · rw [hc] at h
      cases hr : rec (giveF s i) with
      | none => rfl
      | some e => rw [hr] at h; simp at h
    · split at h
      · split at h
        · cases h
        · exact goF_none h i hi hc
      · exact goF_none h i hi hc
theorem least_run : ∀ {f : Nat} {s : Stt} {e : List Int}, leastF x skip f s = some e → e.length = f ∧ Run x skip s e
  | 0, s, e, h => by cases h; exact ⟨rfl, trivial⟩
  | f + 1, s, e, h => by
    obtain ⟨i, hi, e', h1, h2, rfl⟩ := goF_some (show goF x skip s (leastF x skip f) (fun i => (i : Int)) (crewL x) = some e from h)
    obtain ⟨q1, q2⟩ := least_run h2
    exact ⟨by simp [q1], i, rfl, List.mem_range.1 hi, h1, q2⟩
theorem least_none : ∀ {f : Nat} {s : Stt}, leastF x skip f s = none → ∀ e, e.length = f → ¬ Run x skip s e
  | 0, s, h, _, _, _ => by cases h
  | f + 1, s, h, [], he, _ => by cases he
  | f + 1, s, h, j :: r, he, hr => by
    obtain ⟨i, rfl, hi, hc, hr⟩ := hr
    have := goF_none (show goF x skip s (leastF x skip f) (fun i => (i : Int)) (crewL x) = none from h) i (List.mem_range.2 hi) hc
    exact least_none this r (by simpa using he) hr
theorem least_ex {f : Nat} {s : Stt} {e : List Int} (h : e.length = f) (hr : Run x skip s e) : ∃ e', leastF x skip f s = some e' := by
  cases hl : leastF x skip f s with
  | some e' => exact ⟨e', rfl⟩
  | none => exact absurd hr (least_none hl e h)
/-- How far any goes: a run goes so far, none farther. -/
theorem reach_run : ∀ {f : Nat} {s : Stt} {e : List Int}, e.length ≤ f → Run x skip s e → s.n + e.length ≤ reachF x skip f s
  | f, s, [], _, _ => reach_ge
  | 0, s, j :: r, h, _ => by simp at h
  | f + 1, s, j :: r, h, hr => by
    obtain ⟨i, rfl, hi, hc, hr⟩ := hr
    have ih := reach_run (f := f) (e := r) (by simpa using h) hr
    have key : ∀ l : List Nat, i ∈ l → reachF x skip f (giveF s i) ≤ farF x skip s (reachF x skip f) l := by
      intro l
      induction l with
      | nil => intro h; cases h
      | cons j t ih2 =>
        intro hm
        unfold farF
        rcases List.mem_cons.1 hm with rfl | hm
        · rw [hc]; dsimp only; omega
        · have := ih2 hm
          split <;> omega
    have h2 := key _ (List.mem_range.2 hi)
    have e : reachF x skip (f + 1) s = farF x skip s (reachF x skip f) (crewL x) := rfl
    simp only [giveF, List.length_cons] at *
    rw [e]; simp only [crewL]; omega
theorem reach_got : ∀ {f : Nat} {s : Stt}, ∃ e, e.length ≤ f ∧ Run x skip s e ∧ s.n + e.length = reachF x skip f s
  | 0, s => ⟨[], Nat.le_refl _, trivial, rfl⟩
  | f + 1, s => by
    have key : ∀ l : List Nat, (∀ i ∈ l, i < x.o.crew.length) → ∃ e, e.length ≤ f + 1 ∧ Run x skip s e ∧ s.n + e.length = farF x skip s (reachF x skip f) l := by
      intro l
      induction l with
      | nil => intro _; exact ⟨[], Nat.zero_le _, trivial, rfl⟩
      | cons i t ih =>
        intro hl
        obtain ⟨e1, h1, h2, h3⟩ := ih (fun i hi => hl i (by simp [hi]))
        unfold farF
        split
        · rename_i hc
          obtain ⟨e2, k1, k2, k3⟩ := reach_got (f := f) (s := giveF s i)
          by_cases hm : reachF x skip f (giveF s i) ≤ farF x skip s (reachF x skip f) t
          · exact ⟨e1, h1, h2, by rw [h3]; omega⟩
          · refine ⟨(i : Int) :: e2, by simp; omega, ⟨i, rfl, hl i (by simp), hc, k2⟩, ?_⟩
            simp only [giveF, List.length_cons] at *
            omega
        · exact ⟨e1, h1, h2, h3⟩
    exact key _ (fun i hi => List.mem_range.1 hi)
theorem run_append : ∀ {a b : List Int} {s : Stt}, Run x skip s (a ++ b) ↔ Run x skip s a ∧ Run x skip (a.foldl (fun s i => giveF s i.toNat) s) b
  | [], b, s => by simp [Run]
  | j :: r, b, s => by
    constructor
    · rintro ⟨i, rfl, hi, hc, hr⟩
      have := run_append.1 hr
      exact ⟨⟨i, rfl, hi, hc, this.1⟩, this.2⟩
    · rintro ⟨⟨i, rfl, hi, hc, hr⟩, h2⟩
      exact ⟨i, rfl, hi, hc, run_append.2 ⟨hr, h2⟩⟩
theorem run_mem : ∀ {e : List Int} {s : Stt}, Run x skip s e → ∀ j ∈ e, 0 ≤ j ∧ j < x.o.crew.length ∧ j ≠ skip
  | [], _, _, j, hj => by cases hj
  | k :: r, s, ⟨i, hk, hi, hc, hr⟩, j, hj => by
    rcases List.mem_cons.1 hj with rfl | hj
    · subst hk
      refine ⟨by omega, by omega, ?_⟩
      simp only [canF, Bool.and_eq_true, Bool.not_eq_true', decide_eq_false_iff_not] at hc
      exact hc.1
    · exact run_mem hr j hj
theorem run_skip : ∀ {e : List Int} {s : Stt}, Run x skip s e → Run x (-1) s e
  | [], _, _ => trivial
  | k :: r, s, ⟨i, hk, hi, hc, hr⟩ => by
    refine ⟨i, hk, hi, ?_, run_skip hr⟩
    simp only [canF, Bool.and_eq_true, Bool.not_eq_true', decide_eq_false_iff_not] at *
    exact ⟨by omega, hc.2⟩
theorem getD_cons_succ' {α : Type} {a : α} {l : List α} {d : α} {k : Nat} : (a :: l).getD (k + 1) d = l.getD k d := by simp
/-- A list of the crew is right just if it is a run. -/
theorem run_iff : ∀ {e : List Int} {s : Stt}, Run x (-1) s e ↔ (∀ j ∈ e, 0 ≤ j ∧ j < x.o.crew.length) ∧ ∀ k, k < e.length → mayF x ((e.take k).foldl (fun s i => giveF s i.toNat) s) (e.getD k 0).toNat = true
  | [], s => by simp [Run]
  | j :: r, s => by
    constructor
    · intro h
      refine ⟨fun k hk => let h3 := run_mem h k hk; ⟨h3.1, h3.2.1⟩, fun k hk => ?_⟩
      obtain ⟨i, rfl, hi, hc, hr⟩ := h
      cases k with
      | zero =>
        simp only [canF, Bool.and_eq_true] at hc
        simpa using hc.2
      | succ k => simpa using (run_iff.1 hr).2 k (by simpa using hk)
    · rintro ⟨h1, h2⟩
      have hj := h1 j (by simp)
      have h0 := h2 0 (by simp)
      simp only [List.take_zero, List.foldl_nil, List.getD_cons_zero] at h0
      refine ⟨j.toNat, by omega, by omega, ?_, run_iff.2 ⟨fun k hk => h1 k (by simp [hk]), fun k hk => by simpa using h2 (k + 1) (by simpa using hk)⟩⟩
      simp only [canF, Bool.and_eq_true, Bool.not_eq_true', decide_eq_false_iff_not]
      exact ⟨by omega, h0⟩
theorem right_run {l : List Int} : (listedF x l = true ∧ rightF x l = true) ↔ l.length = x.t.length ∧ Run x (-1) startF l := by
  rw [run_iff]
  simp only [listedF, rightF, Bool.and_eq_true, decide_eq_true_eq, List.all_eq_true, memF, inF, List.mem_range, beginF]
  constructor
  · rintro ⟨⟨h1, h2⟩, h3⟩
    exact ⟨h1, fun j hj => by have := h2 j hj; omega, h3⟩
  · rintro ⟨h1, h2, h3⟩
    exact ⟨⟨h1, fun j hj => by have := h2 j hj; omega⟩, h3⟩
end
theorem far_le {x : Wk} {l : List Int} {skip : Int} (h : l.length ≤ x.t.length) : farthestF x l skip ≤ x.t.length := by
  have := reach_le (x := x) (skip := skip) (f := x.t.length - l.length) (s := beginF l)
  rw [begin_len] at this
  simp only [farthestF]; omega
theorem far_iff {x : Wk} : farthestF x [] (-1) = x.t.length ↔ ∃ l, listedF x l = true ∧ rightF x l = true := by
  constructor
  · intro h
    obtain ⟨e, h1, h2, h3⟩ := reach_got (x := x) (skip := -1) (f := x.t.length) (s := startF)
    refine ⟨e, right_run.2 ⟨?_, h2⟩⟩
    have h3 : 0 + e.length = farthestF x [] (-1) := h3
    omega
  · rintro ⟨l, h⟩
    obtain ⟨h1, h2⟩ := right_run.1 h
    have := reach_run (f := x.t.length) (by omega) h2
    have h4 : startF.n + l.length ≤ farthestF x [] (-1) := this
    have h5 : startF.n = 0 := rfl
    have := far_le (x := x) (l := []) (skip := -1) (Nat.zero_le _)
    omega
theorem rest_right {x : Wk} (h : ¬ farthestF x [] (-1) < x.t.length) : listedF x (restF x [] (-1)) = true ∧ rightF x (restF x [] (-1)) = true := by
  have hle := far_le (x := x) (l := []) (skip := -1) (Nat.zero_le _)
  obtain ⟨l, hl⟩ := far_iff.1 (by omega : farthestF x [] (-1) = x.t.length)
  obtain ⟨h1, h2⟩ := right_run.1 hl
  obtain ⟨e, he⟩ := least_ex (f := x.t.length) h1 h2
  have e1 : restF x [] (-1) = e := by
    show [] ++ (leastF x (-1) (x.t.length - 0) startF).getD [] = e
    rw [Nat.sub_zero, he]; rfl
  rw [e1]
  obtain ⟨k1, k2⟩ := least_run he
  exact right_run.2 ⟨k1, k2⟩
/-- What a run of others goes on with. -/
theorem rest_on {x : Wk} {l : List Int} {skip : Int} (h : ¬ (restF x l skip).length < x.t.length) (hl : l.length ≤ x.t.length) (hr : Run x (-1) startF l) : (listedF x (restF x l skip) = true ∧ rightF x (restF x l skip) = true) ∧ (restF x l skip).length = x.t.length ∧ (∀ i, i < l.length → (restF x l skip).getD i 0 = l.getD i 0) ∧ ∀ i, l.length ≤ i → i < x.t.length → (restF x l skip).getD i 0 ≠ skip := by
  unfold restF at *
  cases he : leastF x skip (x.t.length - l.length) (beginF l) with
  | none =>
    rw [he] at h
    simp only [Option.getD_none, List.append_nil] at h ⊢
    have hll : l.length = x.t.length := by omega
    exact ⟨right_run.2 ⟨hll, hr⟩, hll, fun _ _ => by first | rfl | trivial, fun i h1 h2 => by omega⟩
  | some e =>
    simp only [Option.getD_some]
    obtain ⟨k1, k2⟩ := least_run he
    have hlen : (l ++ e).length = x.t.length := by simp [k1]; omega
    refine ⟨right_run.2 ⟨hlen, run_append.2 ⟨hr, run_skip k2⟩⟩, hlen, fun i hi => by simp [List.getElem?_append_left hi], fun i h1 h2 => ?_⟩
    have hie : i - l.length < e.length := by omega
    have := (run_mem k2 _ (List.getElem_mem hie)).2.2
    simpa [List.getElem?_append_right h1, hie] using this
end Go.Proofs.Ytcmhpndhloplpaa

namespace Go.Proofs.Ytcmhpndhloplpaa
open Go.Pal

def HadLt (s : Stt) : Prop := ∀ j ∈ s.had, j = -1 ∨ (0 ≤ j ∧ j < s.n)
theorem HadLt.give {s : Stt} {i : Nat} (h : HadLt s) : HadLt (giveF s i) := by
  intro j hj
  simp only [giveF] at hj ⊢
  rcases List.mem_or_eq_of_mem_set hj with hj | rfl
  · rcases h j hj with h | h <;> omega
  · right; omega
theorem HadLt.start : HadLt startF := fun j hj => by simp [startF] at hj; exact .inl hj
theorem HadLt.at {s : Stt} (h : HadLt s) (i : Nat) : hadN s i = -1 ∨ (0 ≤ hadN s i ∧ hadN s i < s.n) := by
  by_cases hi : i < s.had.length
  · have : hadN s i = s.had[i] := by simp [hadN, hi]
    rw [this]; exact h _ (List.getElem_mem hi)
  · left; simp only [hadN, List.getD_eq_getElem?_getD, List.getElem?_eq_none (by omega : s.had.length ≤ i), Option.getD_none]
theorem run_mono {x x' : Wk} {N : Nat} (hmay : ∀ s i, HadLt s → s.n < N → i < x.o.crew.length → mayF x s i = true → i < x'.o.crew.length ∧ mayF x' s i = true) : ∀ {e : List Int} {s : Stt}, HadLt s → s.n + e.length ≤ N → Run x (-1) s e → Run x' (-1) s e
  | [], _, _, _, _ => trivial
  | j :: r, s, hs, hn, ⟨i, hj, hi, hc, hr⟩ => by
    simp only [canF, Bool.and_eq_true] at hc
    simp only [List.length_cons] at hn
    obtain ⟨h1, h2⟩ := hmay s i hs (by omega) hi hc.2
    exact ⟨i, hj, h1, by simp only [canF, Bool.and_eq_true]; exact ⟨hc.1, h2⟩, run_mono hmay hs.give (by simp only [giveF]; omega) hr⟩
theorem done_eq {x : Wk} {n i : Nat} : doneW x n i = doneF (takeN x n) ⟨(x.o.crew.getD i ⟨0, 0, 0⟩).hi, x.o.delay⟩ := rfl
theorem may_eq {x x' : Wk} {N : Nat} (ho : x.o = x'.o) (ht : ∀ k, k < N → takeN x k = takeN x' k) {s : Stt} {i : Nat} (hs : HadLt s) (hn : s.n < N) : mayF x s i = mayF x' s i := by
  unfold mayF
  rw [done_eq, done_eq, done_eq, done_eq, ht _ hn, ho]
  congr 1
  rcases hs.at i with h | h
  · rw [h]; simp
  · rw [ht (hadN s i).toNat (by omega), restN, restN, ho]
/-- An office where all is easier. -/
structure Easier (o o' : Off) : Prop where
  crew : o.crew.length ≤ o'.crew.length
  rep : ∀ i, i < o.crew.length → (o'.crew.getD i ⟨0, 0, 0⟩).hi ≤ (o.crew.getD i ⟨0, 0, 0⟩).hi ∧ (o'.crew.getD i ⟨0, 0, 0⟩).rest ≤ (o.crew.getD i ⟨0, 0, 0⟩).rest
  due : o.due ≤ o'.due
  delay : o'.delay ≤ o.delay
theorem may_easier {x x' : Wk} (ht : x.t = x'.t) (he : Easier x.o x'.o) (hp : ∀ p ∈ x.t, p.fr ≤ p.to) {s : Stt} {i : Nat} (hi : i < x.o.crew.length) (h : mayF x s i = true) : i < x'.o.crew.length ∧ mayF x' s i = true := by
  have hd : ∀ n, doneW x' n i ≤ doneW x n i := fun n => by
    rw [done_eq, done_eq]
    have e : takeN x' n = takeN x n := by simp only [takeN, ht]
    rw [e]
    have hle : (takeN x n).fr ≤ (takeN x n).to := by
      unfold takeN
      by_cases hn : n < x.t.length
      · rw [List.getD_eq_getElem?_getD, List.getElem?_eq_getElem hn]; exact hp _ (List.getElem_mem hn)
      · rw [List.getD_eq_getElem?_getD, List.getElem?_eq_none (by omega)]; simp
    have h1 := (he.rep i hi).1
    have h2 := he.delay
    simp only [doneF]
    have := Int.mul_le_mul_of_nonneg_left h1 (show 0 ≤ (takeN x n).to - (takeN x n).fr by omega)
    omega
  have e : ∀ n, takeN x' n = takeN x n := fun n => by simp only [takeN, ht]
  refine ⟨by have := he.crew; omega, ?_⟩
  simp only [mayF, Bool.and_eq_true, Bool.or_eq_true, decide_eq_true_eq] at h ⊢
  obtain ⟨h1, h2⟩ := h
  have h3 := hd s.n
  have h4 := he.due
  have h5 := hd (hadN s i).toNat
  have h6 := (he.rep i hi).2
  rw [e]
  refine ⟨by omega, ?_⟩
  rcases h2 with h2 | h2
  · exact .inl h2
  · right; simp only [restN] at *; omega
theorem easier_run {x x' : Wk} (ht : x.t = x'.t) (he : Easier x.o x'.o) (hp : ∀ p ∈ x.t, p.fr ≤ p.to) {e : List Int} (h : Run x (-1) startF e) : Run x' (-1) startF e :=
  run_mono (N := startF.n + e.length) (fun s i _ _ hi hm => may_easier ht he hp hi hm) HadLt.start (Nat.le_refl _) h
theorem easier_far {x x' : Wk} (ht : x.t = x'.t) (he : Easier x.o x'.o) (hp : ∀ p ∈ x.t, p.fr ≤ p.to) : farthestF x [] (-1) ≤ farthestF x' [] (-1) := by
  obtain ⟨e, h1, h2, h3⟩ := reach_got (x := x) (skip := -1) (f := x.t.length) (s := startF)
  have := reach_run (f := x'.t.length) (by rw [← ht]; exact h1) (easier_run ht he hp h2)
  have e1 : farthestF x [] (-1) = reachF x (-1) x.t.length startF := rfl
  have e2 : farthestF x' [] (-1) = reachF x' (-1) x'.t.length startF := rfl
  rw [e1, e2]; omega

/-! ### Takes of a sitting that ends with one -/
theorem base_take {a long : Int} : ∀ {m k : Nat}, k ≤ m → (baseF a long m).take k = baseF a long k := fun {m k} h => by
  simp only [baseF, ← List.map_take, List.take_range, Nat.min_eq_left h]
theorem base_at {a long : Int} {m j : Nat} (h : j < (baseF a long m).length) : (baseF a long m)[j].to = a + (j + 1) * long := by
  simp [baseF]
theorem div_mul {a long : Int} {k : Nat} (h0 : 1 ≤ long) : ((a + k * long - a) / long).toNat = k := by
  have : (a + k * long - a) / long = k := by
    rw [show a + k * long - a = k * long by omega]
    exact Int.mul_ediv_cancel _ (by omega)
  rw [this]; simp
theorem cut_exact {long short a : Int} {k : Nat} (h0 : 1 ≤ long) : cutS long short ⟨a, a + k * long⟩ = baseF a long k := by
  simp only [cutS, div_mul h0, if_true]
theorem cut_upto {long short : Int} {q : Span} (h0 : 1 ≤ long) {j : Nat} (hj : j < (cutS long short q).length) : cutS long short ⟨q.fr, (cutS long short q)[j].to⟩ = (cutS long short q).take (j + 1) := by
  have hbl : ∀ {a : Int} {m : Nat}, (baseF a long m).length = m := fun {a m} => by simp [baseF]
  have hin : ∀ m : Nat, j < m → cutS long short ⟨q.fr, q.fr + (j + 1) * long⟩ = baseF q.fr long (j + 1) := fun m _ => by
    have := cut_exact (long := long) (short := short) (a := q.fr) (k := j + 1) h0
    rwa [Int.natCast_add, Int.cast_ofNat_Int] at this
  have hlast : ∀ (m : Nat) (p : Span), p.to = q.to → cutS long short q = baseF q.fr long m ++ [p] → cutS long short ⟨q.fr, (cutS long short q)[j].to⟩ = (cutS long short q).take (j + 1) := fun m p hp e => by
    have hj2 : j < (baseF q.fr long m ++ [p]).length := by rw [← e]; exact hj
    have hg : (cutS long short q)[j] = (baseF q.fr long m ++ [p])[j] := by congr 1
    simp only [List.length_append, hbl, List.length_singleton] at hj2
    by_cases hjm : j < m
    · have e2 : (cutS long short q)[j].to = q.fr + (j + 1) * long := by
        rw [hg, List.getElem_append_left (by rw [hbl]; exact hjm), base_at]
      rw [e2, hin m hjm, e, List.take_append_of_le_length (by rw [hbl]; omega), base_take (by omega)]
    · have hjm : j = m := by omega
      have e2 : (cutS long short q)[j].to = q.to := by
        rw [hg, List.getElem_append_right (by rw [hbl]; omega)]; simp [hbl, hjm, hp]
      rw [e2, List.take_of_length_le (by rw [e]; simp [hbl]; omega)]
  by_cases h1 : q.fr + ((q.to - q.fr) / long).toNat * long = q.to
  · have e : cutS long short q = baseF q.fr long ((q.to - q.fr) / long).toNat := by simp only [cutS]; rw [if_pos h1]
    have hj2 : j < ((q.to - q.fr) / long).toNat := by rw [e, hbl] at hj; exact hj
    have e2 : (cutS long short q)[j].to = q.fr + (j + 1) * long := by
      have hg : (cutS long short q)[j] = (baseF q.fr long ((q.to - q.fr) / long).toNat)[j]'(by rw [hbl]; exact hj2) := by congr 1
      rw [hg, base_at]
    rw [e2, hin _ hj2, e, base_take (by omega)]
  · by_cases h2 : short ≤ q.to - (q.fr + ((q.to - q.fr) / long).toNat * long) ∨ ((q.to - q.fr) / long).toNat = 0
    · exact hlast ((q.to - q.fr) / long).toNat ⟨q.fr + ((q.to - q.fr) / long).toNat * long, q.to⟩ rfl (by simp only [cutS]; rw [if_neg h1, if_pos h2])
    · exact hlast (((q.to - q.fr) / long).toNat - 1) ⟨q.fr + (((q.to - q.fr) / long).toNat - 1 : Nat) * long, q.to⟩ rfl (by simp only [cutS]; rw [if_neg h1, if_neg h2])
theorem spansOk_low {len len' : Int} : ∀ {l : List Span} {last last' : Int}, last ≤ last' → (∀ p ∈ l, p.to ≤ len') → spansOk len last' l = true → spansOk len' last l = true
  | [], _, _, _, _, _ => rfl
  | p :: r, last, last', h, hl, hs => by
    simp only [spansOk, Bool.and_eq_true, goodSpan_iff] at hs ⊢
    exact ⟨⟨by omega, hs.1.2.1, hs.1.2.2.1, hl p (by simp)⟩, spansOk_low (Int.le_refl _) (fun q hq => hl q (by simp [hq])) hs.2⟩
theorem spansOk_filter {len t : Int} : ∀ {l : List Span} {last : Int}, spansOk len last l = true → spansOk t last (l.filter fun p => decide (p.to ≤ t)) = true
  | [], _, _ => rfl
  | p :: r, last, h => by
    simp only [spansOk, Bool.and_eq_true, goodSpan_iff] at h
    have ih := spansOk_filter (t := t) h.2
    by_cases hp : p.to ≤ t
    · rw [List.filter_cons, if_pos (by simpa using hp)]
      simp only [spansOk, Bool.and_eq_true, goodSpan_iff]
      exact ⟨⟨by omega, by omega, by omega, hp⟩, ih⟩
    · rw [List.filter_cons, if_neg (by simpa using hp)]
      refine spansOk_low (by omega) (fun q hq => ?_) ih
      have := (List.mem_filter.1 hq).2
      simpa using this
theorem stretch_upto {len t : Int} {q : Span} (h1 : q.fr < t) (h2 : t ≤ q.to) : ∀ {l : List Span} {last fr : Int} {A B : List Span}, spansOk len last l = true → fr ≤ last + 1 → 0 ≤ fr → stretchesF len fr l = A ++ q :: B → stretchesF t fr (l.filter fun p => decide (p.to ≤ t)) = A ++ [⟨q.fr, t⟩]
  | [], last, fr, A, B, _, _, _, e => by
    simp only [stretchesF] at e
    split at e
    · cases A with
      | nil =>
        simp only [List.nil_append, List.cons.injEq] at e
        obtain ⟨rfl, _⟩ := e
        simp only [List.filter_nil, stretchesF, List.nil_append]
        rw [if_pos (by simpa using h1)]
      | cons a A => simp at e
    · cases A <;> simp at e
  | p :: r, last, fr, A, B, h, hf, h0, e => by
    have hs := h
    simp only [spansOk, Bool.and_eq_true, goodSpan_iff] at h
    obtain ⟨⟨g1, g2, g3, g4⟩, hr⟩ := h
    have hmem := spansOk_mem hr
    have hch := (stretches_chain (len := len) (fr := p.to) hr (by omega) (by omega)).1
    have inr : ∀ {A' B' : List Span}, stretchesF len p.to r = A' ++ q :: B' → stretchesF t fr ((p :: r).filter fun p => decide (p.to ≤ t)) = (if fr < p.fr then [⟨fr, p.fr⟩] else []) ++ (A' ++ [⟨q.fr, t⟩]) := fun {A' B'} e' => by
      have hq := (chain_mem hch q (by rw [e']; simp)).1
      have ih := stretch_upto h1 h2 hr (by omega) (by omega) e'
      rw [List.filter_cons, if_pos (by simp; omega), stretchesF, ih]
    simp only [stretchesF] at e
    split at e
    · rename_i hlt
      cases A with
      | nil =>
        simp only [List.nil_append, List.cons_append, List.cons.injEq] at e
        obtain ⟨rfl, _⟩ := e
        simp only at h1 h2
        have hnil : (p :: r).filter (fun p => decide (p.to ≤ t)) = [] := by
          rw [List.filter_eq_nil_iff]
          intro a ha
          rcases List.mem_cons.1 ha with rfl | ha
          · simp; omega
          · have := hmem a ha; simp; omega
        rw [hnil]
        simp only [stretchesF, List.nil_append]
        rw [if_pos h1]
      | cons a A =>
        simp only [List.cons_append, List.nil_append, List.cons.injEq] at e
        obtain ⟨rfl, e⟩ := e
        rw [inr e, if_pos hlt]; rfl
    · rename_i hlt
      rw [List.nil_append] at e
      rw [inr e, if_neg hlt]; rfl
theorem flat_at {α β : Type} {f : α → List β} : ∀ {L : List α} {i : Nat} (h : i < (L.flatMap f).length), ∃ A q B j, ∃ hj : j < (f q).length, L = A ++ q :: B ∧ (L.flatMap f)[i] = (f q)[j] ∧ (L.flatMap f).take (i + 1) = A.flatMap f ++ (f q).take (j + 1)
  | [], i, h => by simp at h
  | a :: L, i, h => by
    by_cases hi : i < (f a).length
    · refine ⟨[], a, L, i, hi, rfl, ?_, ?_⟩
      · simp only [List.flatMap_cons]; rw [List.getElem_append_left hi]
      · simp only [List.flatMap_cons, List.flatMap_nil, List.nil_append]; rw [List.take_append_of_le_length (by omega)]
    · have h' : i - (f a).length < (L.flatMap f).length := by simp only [List.flatMap_cons, List.length_append] at h; omega
      obtain ⟨A, q, B, j, hj, e1, e2, e3⟩ := flat_at h'
      refine ⟨a :: A, q, B, j, hj, by rw [e1]; rfl, ?_, ?_⟩
      · simp only [List.flatMap_cons]; rw [List.getElem_append_right (by omega)]; exact e2
      · simp only [List.flatMap_cons]
        rw [List.take_append, List.take_of_length_le (by omega), show i + 1 - (f a).length = i - (f a).length + 1 by omega, e3, List.append_assoc]
theorem takes_cut {s : Sit} (h : validF s = true) {n : Nat} (hn : n < (takesF s).length) : validF (cutF s (takesF s)[n].to) = true ∧ takesF (cutF s (takesF s)[n].to) = (takesF s).take (n + 1) := by
  obtain ⟨h1, h2, h3, h4⟩ := validF_iff.1 h
  have hbd := takes_bd h _ (List.getElem_mem hn)
  have hch := chain_drop n hn (takes_chain h)
  refine ⟨validF_iff.2 ⟨spansOk_filter h1, ⟨by simp only [cutF]; omega, by simp only [cutF]; omega⟩, h3, h4⟩, ?_⟩
  obtain ⟨A, q, B, j, hj, e1, e2, e3⟩ := flat_at (f := cutS s.long s.short) (L := stretchesF s.len 0 s.ps) hn
  have e2' : (takesF s)[n] = (cutS s.long s.short q)[j] := e2
  have e3' : (takesF s).take (n + 1) = A.flatMap (cutS s.long s.short) ++ (cutS s.long s.short q).take (j + 1) := e3
  obtain ⟨c1, c2⟩ := stretches_chain (fr := 0) h1 (Int.le_refl _) (by omega)
  have hq := chain_mem c1 q (by rw [e1]; simp)
  have hb := cut_bd (short := s.short) (show 1 ≤ s.long by omega) (by omega) _ (List.getElem_mem hj)
  have hc := chain_drop j hj (cut_chain (short := s.short) (show 1 ≤ s.long by omega) hq.2)
  rw [e2', e3']
  have := stretch_upto (t := (cutS s.long s.short q)[j].to) (by omega) hb.2.2 h1 (by omega) (Int.le_refl _) e1
  show (stretchesF (cutS s.long s.short q)[j].to 0 (s.ps.filter fun p => decide (p.to ≤ (cutS s.long s.short q)[j].to))).flatMap (cutS s.long s.short) = _
  rw [this, List.flatMap_append]
  congr 1
  simp only [List.flatMap_cons, List.flatMap_nil, List.append_nil]
  exact cut_upto (by omega) hj
end Go.Proofs.Ytcmhpndhloplpaa

namespace Go.Proofs.Ytcmhpndhloplpaa
open Go.Pal

set_option maxRecDepth 100000

theorem had_give {s : Stt} {i c : Nat} (hi : i < 5) : hadN (giveF s i) c = if i = c then (s.n : Int) else hadN s c := by
  have h5 := s.five
  simp only [hadN, giveF, List.getD_eq_getElem?_getD, List.getElem?_set]
  by_cases h : i = c
  · subst h; simp [h5, hi]
  · simp [h]
/-- The last that a reporter had. -/
theorem had_spec {l : List Int} (hl : ∀ j ∈ l, 0 ≤ j ∧ j < 5) (c : Nat) : ∀ k, k ≤ l.length → (hadN (beginF (l.take k)) c = -1 ∧ ∀ j, j < k → l.getD j 0 ≠ c) ∨ ∃ j, j < k ∧ l.getD j 0 = c ∧ hadN (beginF (l.take k)) c = (j : Int) ∧ ∀ j', j < j' → j' < k → l.getD j' 0 ≠ c
  | 0, _ => by
    by_cases h : c < 5
    · left
      refine ⟨?_, fun j h => absurd h (Nat.not_lt_zero _)⟩
      show hadN startF c = -1
      have : c = 0 ∨ c = 1 ∨ c = 2 ∨ c = 3 ∨ c = 4 := by omega
      rcases this with rfl | rfl | rfl | rfl | rfl <;> rfl
    · left
      refine ⟨?_, fun j h => absurd h (Nat.not_lt_zero _)⟩
      show hadN startF c = -1
      simp only [hadN, List.getD_eq_getElem?_getD, List.getElem?_eq_none (by rw [startF.five]; omega : startF.had.length ≤ c), Option.getD_none]
  | k + 1, hk => by
    have hlt : k < l.length := hk
    have hm := hl _ (List.getElem_mem hlt)
    have hgd : l.getD k 0 = l[k] := by simp [hlt]
    have hn : (beginF (l.take k)).n = k := by rw [begin_len]; simp; omega
    rw [begin_snoc hlt, had_give (by omega), hn]
    by_cases hc : l[k].toNat = c
    · right
      refine ⟨k, by omega, by rw [hgd]; omega, by rw [if_pos hc], fun j' h1 h2 => by omega⟩
    · rw [if_neg hc]
      have hne : l.getD k 0 ≠ c := by rw [hgd]; omega
      rcases had_spec hl c k (by omega) with ⟨h1, h2⟩ | ⟨j, h1, h2, h3, h4⟩
      · left
        refine ⟨h1, fun j hj => ?_⟩
        by_cases hjk : j = k
        · subst hjk; exact hne
        · exact h2 j (by omega)
      · right
        refine ⟨j, by omega, h2, h3, fun j' h5 h6 => ?_⟩
        by_cases hjk : j' = k
        · subst hjk; exact hne
        · exact h4 j' h5 (by omega)
theorem takeN_le {x : Wk} {lo : Int} (hch : chain lo x.t) {i k : Nat} (hik : i ≤ k) (hk : k < x.t.length) : (takeN x i).fr ≤ (takeN x k).fr := by
  have e1 : takeN x i = x.t[i]'(by omega) := by simp [takeN, show i < x.t.length by omega]
  have e2 : takeN x k = x.t[k] := by simp [takeN, hk]
  rw [e1, e2]
  by_cases h : i = k
  · subst h; exact Int.le_refl _
  · have h1 := chain_le hch (show i < k by omega) hk
    have h2 := (chain_drop i (by omega) hch).2.1
    omega
theorem any_law {x : Wk} {l : List Int} {lo : Int} (hch : chain lo x.t) (h5 : x.o.crew.length ≤ 5) (hl : l.length = x.t.length) (hr : Run x (-1) startF l) : ∀ k, k < l.length → doneW x k (l.getD k 0).toNat ≤ (takeN x k).to + x.o.due ∧ ∀ i, i < k → l.getD k 0 = l.getD i 0 → doneW x i (l.getD i 0).toNat + restN x (l.getD i 0).toNat ≤ (takeN x k).fr := by
  obtain ⟨hm, hmay⟩ := run_iff.1 hr
  intro k
  induction k using Nat.strongRecOn with | ind k ih =>
  intro hk
  have h := hmay k hk
  have hgm : ∀ i, i < l.length → 0 ≤ l.getD i 0 ∧ l.getD i 0 < x.o.crew.length := fun i hi => by
    have : l.getD i 0 = l[i] := by simp [hi]
    rw [this]; exact hm _ (List.getElem_mem hi)
  have hn : (beginF (l.take k)).n = k := by rw [begin_len]; simp; omega
  have h : mayF x (beginF (l.take k)) (l.getD k 0).toNat = true := h
  simp only [mayF, Bool.and_eq_true, Bool.or_eq_true, decide_eq_true_eq, hn] at h
  refine ⟨h.1, fun i hi he => ?_⟩
  rcases had_spec (l := l) (fun j hj => by have := hm j hj; omega) (l.getD k 0).toNat k (by omega) with ⟨_, h2⟩ | ⟨j, h1, h2, h3, h4⟩
  · have := hgm k hk
    exact absurd (by rw [← he]; omega) (h2 i hi)
  · have hgk := hgm k hk
    have hj : doneW x j (l.getD k 0).toNat + restN x (l.getD k 0).toNat ≤ (takeN x k).fr := by
      rcases h.2 with h6 | h6
      · omega
      · rw [h3] at h6; simpa using h6
    by_cases hij : i = j
    · subst hij; rw [← he]; exact hj
    · have hlt : i < j := by
        rcases Nat.lt_or_ge i j with h | h
        · exact h
        · exact absurd (by rw [← he]; omega) (h4 i (by omega) hi)
      have := (ih j h1 (by omega)).2 i hlt (by rw [h2, ← he]; omega)
      have := takeN_le hch (show j ≤ k by omega) (by omega)
      omega
theorem done_mono {x : Wk} {p : Span} {k : Nat} {q : Slow} (h1 : q.slow ≤ (x.o.crew.getD k ⟨0, 0, 0⟩).hi) (h2 : q.delay ≤ x.o.delay) (h3 : 0 ≤ q.slow) (h4 : 0 ≤ q.delay) (hp : p.fr ≤ p.to) : p.to ≤ doneF p q ∧ doneF p q ≤ doneF p ⟨(x.o.crew.getD k ⟨0, 0, 0⟩).hi, x.o.delay⟩ := by
  simp only [doneF]
  have e1 := Int.mul_le_mul_of_nonneg_left h1 (show 0 ≤ p.to - p.fr by omega)
  have e2 : 0 ≤ (p.to - p.fr) * q.slow := Int.mul_nonneg (by omega) h3
  omega
theorem u16s_val {G : Hp} {v : Value} (h : ∃ x, VR (cdSl (cdInt .u16)) false G v x) : ∃ l : List Nat, SlU u16E G v l ∧ ∀ m ∈ l, m < 65536 := by
  obtain ⟨x, a, n, c, e, hl, _⟩ := h
  simp at e
  have hr : ∀ m ∈ x, 0 ≤ m ∧ m ≤ 65535 := fun m hm => by
    obtain ⟨i, hi, rfl⟩ := List.getElem_of_mem hm
    obtain ⟨cs, _, _, h3, h4⟩ := hl.at_ i hi
    simpa [inR] using h4
  refine ⟨x.map Int.toNat, ⟨a, n, c, e, ?_⟩, fun m hm => ?_⟩
  · refine ⟨by rw [List.length_map, hl.len], hl.cap, hl.some, fun i hi => ?_⟩
    obtain ⟨cs, h1, h2, h3, h4⟩ := hl.at_ i (by simpa using hi)
    refine ⟨cs, h1, h2, ?_⟩
    have := (hr (x[i]'(by simpa using hi)) (List.getElem_mem _)).1
    show cs = [.int .u16 _]
    rw [h3, List.getElem_map, Int.toNat_of_nonneg this]
  · obtain ⟨k, hk, rfl⟩ := List.mem_map.1 hm
    have := hr k hk; omega
def u8Rd : Rd Nat := ⟨fun _ v x => v = .int .u8 x ∧ x < 256, fun {_ _ _ _} h h' => by have := h.1.symm.trans h'.1; simp at this; omega, fun {_ _ _ _} _ h => h⟩
theorem u8_val {G : Hp} {v : Value} (h : ∃ x, VR (cdInt .u8) false G v x) : ∃ n, u8Rd.R G v n := by
  obtain ⟨x, e, hr⟩ := h
  simp only [inR] at hr
  simp only [List.cons.injEq, and_true] at e
  exact ⟨x.toNat, by rw [e, Int.toNat_of_nonneg hr.1], by omega⟩
end Go.Proofs.Ytcmhpndhloplpaa
