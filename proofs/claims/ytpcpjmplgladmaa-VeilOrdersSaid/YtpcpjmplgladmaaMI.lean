/- Layer 9: what is shut. Layer 9: what is shut (the program). Layer 9: the orders that hold; what some orders hide. -/
import Derived.Test.YtpcpjmplgladmaaMH
set_option linter.unusedSimpArgs false
set_option linter.unusedVariables false
namespace Go.Proofs.Ytpcpjmplgladmaa
open Go.Pal
set_option maxRecDepth 100000
def mxL (l : List Int) : Int := match l with
  | [] => 0
  | x :: r => r.foldl max x
theorem mxL_take {l : List Int} {i : Nat} (h : i < l.length) (h0 : 1 ≤ i) : mxL (l.take (i + 1)) = max (mxL (l.take i)) l[i] := by
  rw [take_snoc (List.getElem?_eq_getElem h)]
  cases l with
  | nil => simp at h
  | cons x r =>
    cases i with
    | zero => omega
    | succ i =>
      have h' : i < r.length := by simpa using h
      simp only [List.take_succ_cons, List.cons_append, mxL, List.foldl_append, List.foldl_cons, List.foldl_nil, List.getElem_cons_succ]
theorem max75 : Sound Try.prog 75 id (gsca (args1 (slRd intE) fun l => 1 ≤ l.length) fun l v => v = I (mxL l)) := by
  refine comp75.gsca (Tab.nil _) (fun args G s h => ?_) (fun args G l h => ?_)
  · obtain ⟨v, rfl, _⟩ := h; simp
  · obtain ⟨v, rfl, ⟨a, n, c, rfl, hl, hn⟩, h1⟩ := h
    have hlen := hl.len
    have hc0 := hl.el (show 0 < l.length by omega)
    have hm0 : mxL (l.take 1) = l[0] := by
      cases l with
      | nil => simp at h1
      | cons x r => rfl
    rw [Nat.zero_mul, Nat.add_zero] at hc0
    have hc0 : CellsAt G (ab a) (ao a + (0 : Int).toNat * 1) (intE.f l[0]) := hc0
    (conv => whnf)
    refine IteP.mk (fun h2 => by exfalso; omega) (fun h2 => W.mk ?_)
    (conv => whnf)
    repeat' (first | (refine OblP.mk ?_ (W.mk ?_); (first | trivial | omega | (simp only [inR]; omega) | exact Nat.le_of_ble_eq_true (by rfl) | exact SlR.some (by assumption) (by omega)); (conv => whnf)) | (first | (refine RdP.at (by assumption) (by rfl) (W.mk ?_); (conv => whnf)) | (refine RdP.sub (by assumption) (by rfl) (W.mk ?_); (conv => whnf)) | (refine RdP.sub2 (by assumption) (by rfl) (W.mk ?_); (conv => whnf)) | (refine RdP.sub3 (by assumption) (by rfl) (W.mk ?_); (conv => whnf))))
    refine LoopP.of { α := Nat × Int, fr := fun y => [(0, .v (.slice a n c)), (3, .v (I y.2)), (4, .v (I y.1))], H := fun _ => [], ok := fun y _ => 1 ≤ y.1 ∧ y.1 ≤ l.length ∧ y.2 = mxL (l.take y.1), m := fun y => l.length - y.1 }
      (1, l[0]) (HeadP.of [] ⟨rfl, rfl, rfl, trivial⟩ trivial) ⟨Nat.le_refl _, h1, hm0.symm⟩ (fun _ => ⟨rfl, rfl⟩) (fun y G1 hg1 hx => W.mk ?_)
    obtain ⟨i, mx⟩ := y
    obtain ⟨hi1, hi, hmx⟩ := hx
    dsimp only at hi1 hi hmx
    dsimp only
    (conv => whnf)
    refine IteP.mk (fun hlt => W.mk ?_) (fun hge => W.mk ?_) <;> (conv => whnf)
    · have hlt : i < l.length := by omega
      have hc := (SlR.grow (G := G) (G' := G1) (fun _ _ h => h) hl hg1).el hlt
      have htk := mxL_take hlt hi1
      generalize l[i] = q at hc htk
      repeat' (first | (refine OblP.mk ?_ (W.mk ?_); (first | trivial | omega | (simp only [inR]; omega) | exact Nat.le_of_ble_eq_true (by rfl) | exact SlR.some (by assumption) (by omega)); (conv => whnf)) | (first | (refine RdP.at (by assumption) (by rfl) (W.mk ?_); (conv => whnf)) | (refine RdP.sub (by assumption) (by rfl) (W.mk ?_); (conv => whnf)) | (refine RdP.sub2 (by assumption) (by rfl) (W.mk ?_); (conv => whnf)) | (refine RdP.sub3 (by assumption) (by rfl) (W.mk ?_); (conv => whnf))))
      exact RoundP.of (i + 1, max mx q) (HeadP.of [] ⟨rfl, rfl, rfl, trivial⟩ trivial) ⟨by omega, hlt, by rw [htk, hmx]⟩ (by simp only; omega)
    · have : i = l.length := by omega
      subst this
      rw [List.take_length] at hmx
      refine FinP.mk ?_
      rw [hmx]; rfl
theorem latest52 : Sound Try.prog 52 id (gsca (args1 (slRd intE) fun l => 1 ≤ l.length) fun l v => v = I (mxL l)) := by
  refine comp52.gsca (Tab.cons 75 _ max75 body75 (Tab.nil _)) (fun args G s h => ?_) (fun args G l h => ?_)
  · obtain ⟨v, rfl, _⟩ := h; simp
  · obtain ⟨v, rfl, ⟨a, n, c, rfl, hl, hn⟩, h1⟩ := h
    (conv => whnf)
    refine ScaP.g (ok1 (slRd intE) fun l => 1 ≤ l.length) (x := l) ⟨_, rfl, ⟨a, n, c, rfl, hl, hn⟩, h1⟩ (fun v hv => W.mk ?_)
    subst hv
    (conv => whnf)
    exact FinP.mk rfl
/-- Words that are hidden up to a year. -/
structure Sh where
  f : Int
  t : Int
  y : Int
  deriving DecidableEq
def shE : El Sh := ⟨3, fun o => [I o.f, I o.t, I o.y], fun {x y} h => by cases x; cases y; simp at h; simp [h], fun _ => rfl, fun _ v hv => by simp at hv; rcases hv with rfl | rfl | rfl <;> rfl⟩
def yrS (x : Rx) (i : Nat) (y : Int) (o : Od) : Int := if shutsF x o && inF i o.f (o.t - 1) then max y o.u else y
/-- The last one is made longer. -/
def setL (L : List Sh) (to y : Int) : List Sh := match L.getLast? with
  | some s => L.dropLast ++ [⟨s.f, to, y⟩]
  | none => []
def lastY (L : List Sh) : Int := match L.getLast? with
  | some s => s.y
  | none => 0
def clI (g : Rg) (i : Nat) (L : List Sh) : List Sh := if i = 0 ∨ g.p (i - 1) = false then L ++ [⟨i, 0, 0⟩] else L
def clK (g : Rg) : Nat → List Sh
  | 0 => []
  | i + 1 => if g.p i then setL (clI g i (clK g i)) (i + 1) (g.r.orders.foldl (yrS g.x i) (lastY (clI g i (clK g i)))) else clK g i
def clF (g : Rg) : List Sh := clK g g.r.words.length
theorem clK_ne (g : Rg) : ∀ i, g.p i = true → clK g (i + 1) ≠ []
  | i, h => by
    have hI : clI g i (clK g i) ≠ [] := by
      unfold clI
      split
      · simp
      · rename_i h0
        cases i with
        | zero => simp at h0
        | succ i => exact clK_ne g i (by simpa using h0)
    simp only [clK, h, if_true]
    generalize clI g i (clK g i) = L at hI ⊢
    unfold setL
    split
    · simp
    · rename_i h2; exact absurd (List.getLast?_eq_none_iff.1 h2) hI
theorem setL_len (L : List Sh) (t y : Int) : (setL L t y).length ≤ L.length := by
  unfold setL
  split
  · rename_i s h
    have : L ≠ [] := fun e => by rw [e] at h; cases h
    have := List.length_pos_iff.2 this
    simp; omega
  · simp
theorem clK_len (g : Rg) : ∀ i, (clK g i).length ≤ i
  | 0 => by simp [clK]
  | i + 1 => by
    have ih := clK_len g i
    simp only [clK]
    split
    · refine Nat.le_trans (setL_len _ _ _) ?_
      unfold clI
      split
      · simp; omega
      · omega
    · omega
theorem setL_snoc (L : List Sh) (s : Sh) (t y : Int) : setL (L ++ [s]) t y = L ++ [⟨s.f, t, y⟩] := by simp [setL]
theorem lastY_snoc (L : List Sh) (s : Sh) : lastY (L ++ [s]) = s.y := by simp [lastY]
theorem den_setR_eq {P : Program} {hid : Nat} {Gr G : Hp} {K : SV → List (Nat × Option OB) → Hp → Prop} {h n : Nat} {vs vs' : List Value} {t : TypeId} {k : Nat} {sv : SV} (e : vs = vs') (hk : Res.den P hid Gr G K (.set h (.row none n vs' t k) sv)) : Res.den P hid Gr G K (.set h (.row none n vs t k) sv) := by
  subst e; exact hk
theorem set3b {pre : List Value} {a b c v : Value} {off : Nat} (h : off = pre.length) : (pre ++ [a, b, c]).take (off + 1) ++ [v] ++ (pre ++ [a, b, c]).drop (off + 1 + 1) = pre ++ [a, v, c] := by
  subst h
  rw [List.take_append, List.drop_append]
  simp [List.take_of_length_le, List.drop_of_length_le, show pre.length + 1 - pre.length = 1 by omega, show pre.length + 1 + 1 - pre.length = 2 by omega, show pre.length ≤ pre.length + 1 + 1 by omega]
theorem set3v {vs pre : List Value} {a b c v : Value} {off : Nat} (hv : vs = pre ++ [a, b, c]) (h : off = pre.length) : vs.take (off + 1) ++ [v] ++ vs.drop (off + 1 + 1) = pre ++ [a, v, c] := by
  subst hv; exact set3b h
theorem set3c {pre : List Value} {a b c v : Value} {off : Nat} (h : off = pre.length) : (pre ++ [a, b, c]).take (off + 2) ++ [v] ++ (pre ++ [a, b, c]).drop (off + 2 + 1) = pre ++ [a, b, v] := by
  subst h
  rw [List.take_append, List.drop_append]
  simp [List.take_of_length_le, List.drop_of_length_le, show pre.length + 2 - pre.length = 2 by omega, show pre.length + 2 + 1 - pre.length = 3 by omega, show pre.length ≤ pre.length + 2 + 1 by omega]
theorem get3c {pre : List Value} {a b c : Value} {off : Nat} (h : off = pre.length) : ((pre ++ [a, b, c]).drop (off + 2)).take 1 = [c] := by
  subst h
  rw [List.drop_append]
  simp [List.drop_of_length_le, show pre.length + 2 - pre.length = 2 by omega]
end Go.Proofs.Ytpcpjmplgladmaa

namespace Go.Proofs.Ytpcpjmplgladmaa
open Go.Pal
set_option maxRecDepth 100000
theorem row_last {L : List Sh} {n : Nat} {vs : List Value} (h : Row shE L n vs) (hn : 1 ≤ n) : ∃ L0 s, L = L0 ++ [s] ∧ vs = (L0.map shE.f).flatten ++ [I s.f, I s.t, I s.y] ∧ (L0.map shE.f).flatten.length = (n - 1) * 3 := by
  have hl := h.n
  have hne : L ≠ [] := fun e => by rw [e] at hl; simp at hl; omega
  refine ⟨L.dropLast, L.getLast hne, (List.dropLast_concat_getLast hne).symm, ?_, ?_⟩
  · rw [h.vs]
    conv => lhs; rw [← List.dropLast_concat_getLast hne]
    simp [shE]
  · have := (Row.of_all (e := shE) L.dropLast (n := n - 1) (by simp; omega)).len
    exact this
theorem rg_eqs {w o m : Value} {c y : Int} {p : Nat → Bool} {i : Nat} (hi : i < 60) {b : Bool} (hb : p i = b) : (((rgl w o m c y p).map S1.val).drop (5 + (i : Int).toNat * 1)).take 1 = [.val (.bool b)] := by
  rw [← List.map_drop, ← List.map_take]
  have : ((rgl w o m c y p).drop (5 + (i : Int).toNat * 1)).take 1 = [.bool b] := by
    rw [List.drop_append, List.drop_of_length_le (by simp)]
    simp only [List.nil_append, List.length_cons, List.length_nil, Int.toNat_natCast, Nat.mul_one, show 5 + i - (0 + 1 + 1 + 1 + 1 + 1) = i by omega]
    rw [List.drop_eq_getElem_cons (by simpa using hi)]
    simp [hb]
  rw [this]; rfl
set_option maxHeartbeats 1000000 in
theorem closed21 : Sound Try.prog 21 id (grel (args2 rpRd rxRd fun _ _ => True) fun p v G => ∃ w, v = .tuple #[w, I (faultX p.1 p.2)] ∧ SlV shE G w (if faultX p.1 p.2 = 0 then clF (rgOf p.1 p.2) else [])) := by
  refine comp21.grel (Tab.cons 44 _ read44 body44 (Tab.cons 50 _ shuts50 body50 (Tab.cons 51 _ within51 body51 (Tab.cons 52 _ latest52 body52 (Tab.nil _))))) (ok2 _ _ _) (fun args G s h => ?_) (fun x v G G' hg ⟨w, h1, h2⟩ => ⟨w, h1, h2.grow hg⟩) (fun args G p h => ?_)
  · obtain ⟨v, w, rfl, _⟩ := h; simp
  · obtain ⟨r, x⟩ := p
    obtain ⟨u, v, rfl, hr, hx, _⟩ := h
    dsimp only at hr hx
    obtain ⟨rw_, ro, rfl, hrc⟩ := id hr
    obtain ⟨m, rfl, hm⟩ := id hx
    obtain ⟨oa, on, oc, rfl, ho1, ho2⟩ := id hrc.o
    obtain ⟨wa, wn, wc, rfl, hw1, hw2⟩ := id hrc.w
    obtain ⟨ma, mn, mc, rfl, hm1, hm2⟩ := id hm
    (conv => whnf)
    refine RelP.g (ok2 rpRd rxRd fun _ _ => True) (x := (r, x)) ⟨_, _, rfl, hr, hx, trivial⟩ (Grow.refl _) (fun v G1 hg1 hq => W.mk ?_)
    obtain ⟨gwa, gwn, gwc, goa, gon, goc, gma, gmn, gmc, gc, gy, gp, rfl, hq⟩ := hq
    dsimp only at hq
    dsimp only
    (conv => whnf)
    refine IteP.mk (fun h1 => W.mk ?_) (fun h1 => W.mk ?_) <;> (conv => whnf)
    rotate_left
    · have h1 : ¬ faultX r x = 0 := h1
      refine FinP.mk ⟨_, rfl, ?_⟩
      rw [if_neg h1]
      exact SlV.nil
    have h1 : faultX r x = 0 := h1
    obtain ⟨rfl, rfl, rfl, hgc⟩ := hq h1
    have hfine := rgFine h1
    have hfn := (faultX_fine h1).1
    have hwl := hfine.wl
    clear ho1
    obtain ⟨_, _, _, q1, ho1, ho2⟩ := hgc.rp.o
    cases q1
    obtain ⟨_, _, _, q1, hw3, hw4⟩ := hgc.rp.w
    cases q1
    have hwn := hw3.len
    have hon := ho1.len
    have hwn : r.words.length = gwn := hwn
    have hon : r.orders.length = gon := hon
    have ho1 : SlR odE.k odE.R G1 goa gon goc r.orders := ho1
    refine LoopP.of { α := Nat × Nat × List Value, fr := fun y => [(6, .c (.ptr 10 0)), (8, .c (.row 1 y.2.1)), (24, .v (.slice gwa gwn gwc)), (25, .v (I gwn)), (26, .v (I y.1))], H := fun y => [(10, .cells .anon ((rgl (.slice gwa gwn gwc) (.slice goa gon goc) (.slice gma gmn gmc) r.cols x.year (rgOf r x).p).map .val) 97), (1, .row none y.2.1 y.2.2 55 3)], ok := fun y _ => y.1 ≤ gwn ∧ Row shE (clK (rgOf r x) y.1) y.2.1 y.2.2, m := fun y => gwn - y.1 }
      (0, 0, []) (HeadP.of [(1, none)] ⟨rfl, rfl, rfl, rfl, rfl, trivial⟩ ⟨rfl, rfl, trivial⟩) ⟨Nat.zero_le _, Row.nil⟩ (fun _ => ⟨rfl, rfl⟩) (fun y G3 hg3 hx => W.mk ?_)
    obtain ⟨i, n, vs⟩ := y
    obtain ⟨hi, hrow⟩ := hx
    dsimp only at hi hrow
    have hcn := hrow.n
    have hcl0 := clK_len (rgOf r x) i
    dsimp only
    (conv => whnf)
    refine IteP.mk (fun hlt => W.mk ?_) (fun hge => W.mk ?_) <;> (conv => whnf)
    rotate_left
    · have hie : i = r.words.length := by omega
      subst hie
      refine PubP.mk (fun a1 c1 G9 hg9 hp => W.mk ?_)
      (conv => whnf)
      refine FinP.mk ⟨_, (by show Value.tuple #[_, I 0] = .tuple #[_, I (faultX r x)]; rw [h1]), ?_⟩
      rw [if_pos h1]
      exact hrow.pub hp (by omega)
    have hlt : i < gwn := by omega
    have hi60 : i < 60 := by have : (rgOf r x).r.words.length = r.words.length := rfl; omega
    repeat' (first | (refine OblP.mk ?_ (W.mk ?_); (first | trivial | omega | (simp only [inR]; omega) | exact Nat.le_of_ble_eq_true (by rfl) | exact SlR.some (by assumption) (by omega)); (conv => whnf)) | (first | (refine RdP.at (by assumption) (by rfl) (W.mk ?_); (conv => whnf)) | (refine RdP.sub (by assumption) (by rfl) (W.mk ?_); (conv => whnf)) | (refine RdP.sub2 (by assumption) (by rfl) (W.mk ?_); (conv => whnf)) | (refine RdP.sub3 (by assumption) (by rfl) (W.mk ?_); (conv => whnf))))
    cases hpi : (rgOf r x).p i with
    | false =>
      refine EqsP.mk ⟨_, rg_eqs hi60 hpi, rfl, W.mk ?_⟩
      (conv => whnf)
      repeat' (first | (refine OblP.mk ?_ (W.mk ?_); (first | trivial | omega | (simp only [inR]; omega) | exact Nat.le_of_ble_eq_true (by rfl) | exact SlR.some (by assumption) (by omega)); (conv => whnf)) | (first | (refine RdP.at (by assumption) (by rfl) (W.mk ?_); (conv => whnf)) | (refine RdP.sub (by assumption) (by rfl) (W.mk ?_); (conv => whnf)) | (refine RdP.sub2 (by assumption) (by rfl) (W.mk ?_); (conv => whnf)) | (refine RdP.sub3 (by assumption) (by rfl) (W.mk ?_); (conv => whnf))))
      refine RoundP.of (i + 1, n, vs) (HeadP.of [] ⟨rfl, rfl, rfl, rfl, rfl, trivial⟩ ⟨rfl, rfl, trivial⟩) ⟨by show i + 1 ≤ gwn; omega, ?_⟩ (by simp only; omega)
      show Row shE (clK (rgOf r x) (i + 1)) n vs
      simp only [clK, hpi]
      exact hrow
    | true =>
      refine EqsP.mk ⟨_, rg_eqs hi60 hpi, rfl, W.mk ?_⟩
      (conv => whnf)
      refine IteP.mk (fun h0 => W.mk ?_) (fun h0 => W.mk ?_) <;> (conv => whnf)
      · have h0 : i = 0 := by have h0 : (i : Int) = 0 := h0; omega
        have hI : clI (rgOf r x) i (clK (rgOf r x) i) = clK (rgOf r x) i ++ [⟨i, 0, 0⟩] := if_pos (.inl h0)
        have hrow2 : Row shE (clI (rgOf r x) i (clK (rgOf r x) i)) (n + 1) (vs ++ [I i, I 0, I 0]) := by rw [hI]; exact hrow.snoc ⟨i, 0, 0⟩
        clear hI
        repeat' (first | (refine OblP.mk rfl (W.mk ?_); (conv => whnf)) | (refine OblP.mk (by omega) (W.mk ?_); (conv => whnf)) | (first | (refine RdP.at (by assumption) (by rfl) (W.mk ?_); (conv => whnf)) | (refine RdP.sub (by assumption) (by rfl) (W.mk ?_); (conv => whnf)) | (refine RdP.sub2 (by assumption) (by rfl) (W.mk ?_); (conv => whnf)) | (refine RdP.sub3 (by assumption) (by rfl) (W.mk ?_); (conv => whnf))))
        have hn1 : 1 ≤ (n + 1) := by have := hrow2; have h1 := this.n; omega
        obtain ⟨L0, s, hL, hvs, hpl⟩ := row_last hrow2 hn1
        have hvl : ((vs ++ [I i, I 0, I 0])).length = (L0.map shE.f).flatten.length + 3 := by rw [hvs]; simp
        generalize hpre : (L0.map shE.f).flatten = pre at hpl hvs hvl
        have hoff : ((((n + 1) : Nat) : Int) - 1).toNat * 3 = pre.length := by rw [hpl]; congr 1; omega
        obtain ⟨sf, st, sy⟩ := s
        have hcl : clK (rgOf r x) (i + 1) = L0 ++ [⟨sf, (i : Int) + 1, r.orders.foldl (yrS x i) sy⟩] := by
          simp only [clK, hpi, if_true]
          rw [hL, setL_snoc, lastY_snoc]; rfl
        repeat' (first | (refine OblP.mk (by simp only [inR]; omega) (W.mk ?_); (conv => whnf)) | (refine OblP.mk ⟨by omega, by omega⟩ (W.mk ?_); (conv => whnf)) | (refine OblP.mk rfl (W.mk ?_); (conv => whnf)) | (first | (refine RdP.at (by assumption) (by rfl) (W.mk ?_); (conv => whnf)) | (refine RdP.sub (by assumption) (by rfl) (W.mk ?_); (conv => whnf)) | (refine RdP.sub2 (by assumption) (by rfl) (W.mk ?_); (conv => whnf)) | (refine RdP.sub3 (by assumption) (by rfl) (W.mk ?_); (conv => whnf))))
        refine OblP.mk (by show _ ≤ List.length ((vs ++ [I i, I 0, I 0])); rw [hvl, hoff]; omega) (W.mk ?_)
        refine den_setR_eq (set3v (vs := (vs ++ [I i, I 0, I 0])) hvs hoff) ?_
        (conv => whnf)
        repeat' (first | (refine OblP.mk ?_ (W.mk ?_); (first | trivial | omega | (simp only [inR]; omega) | exact Nat.le_of_ble_eq_true (by rfl) | exact SlR.some (by assumption) (by omega)); (conv => whnf)) | (first | (refine RdP.at (by assumption) (by rfl) (W.mk ?_); (conv => whnf)) | (refine RdP.sub (by assumption) (by rfl) (W.mk ?_); (conv => whnf)) | (refine RdP.sub2 (by assumption) (by rfl) (W.mk ?_); (conv => whnf)) | (refine RdP.sub3 (by assumption) (by rfl) (W.mk ?_); (conv => whnf))))
        have hIn : ∀ z, Row shE (L0 ++ [z]) (n + 1) (pre ++ [I z.f, I z.t, I z.y]) := fun z => ⟨by have h1 := (hrow2).n; rw [h1, hL]; simp, by rw [← hpre]; simp [shE]⟩
        refine LoopP.of { α := Nat × Int, fr := fun y => [(6, .c (.ptr 10 0)), (8, .c (.row 48 (n + 1))), (9, .v (I i)), (10, .c (.rptr 48 (((((n + 1) : Nat) : Int) - 1).toNat * 3))), (24, .v (.slice gwa gwn gwc)), (25, .v (I gwn)), (26, .v (I i)), (63, .v (.slice goa gon goc)), (64, .v (I gon)), (65, .v (I y.1))], H := fun y => [(10, .cells .anon ((rgl (.slice gwa gwn gwc) (.slice goa gon goc) (.slice gma gmn gmc) r.cols x.year (rgOf r x).p).map .val) 97), (48, .row none (n + 1) (pre ++ [I sf, I ((i : Int) + 1), I y.2]) 55 3)], ok := fun y _ => y.1 ≤ gon ∧ y.2 = (r.orders.take y.1).foldl (yrS x i) sy, m := fun y => gon - y.1 }
          (0, sy) (HeadP.of [] ⟨rfl, rfl, rfl, rfl, rfl, rfl, rfl, rfl, rfl, rfl, trivial⟩ ⟨rfl, rfl, trivial⟩) ⟨Nat.zero_le _, rfl⟩ (fun _ => ⟨rfl, rfl⟩) (fun y G4 hg4 hx => W.mk ?_)
        obtain ⟨k, yy⟩ := y
        obtain ⟨hk, hyy⟩ := hx
        dsimp only at hk hyy
        dsimp only
        (conv => whnf)
        refine IteP.mk (fun hlt => W.mk ?_) (fun hge => W.mk ?_) <;> (conv => whnf)
        · have hlt : k < r.orders.length := by omega
          have hc := (SlR.grow (G := G1) (G' := G4) (fun _ _ h => h) ho1 (hg3.trans hg4)).el hlt
          have htk := take_snoc (List.getElem?_eq_getElem hlt)
          have hb := hfn.o _ (List.getElem_mem hlt)
          generalize r.orders[k] = o at hc htk hb
          have hc : CellsAt G4 (ab goa) (ao goa + k * 4) [I o.f, I o.t, I o.k, I o.u] := hc
          have hst : (r.orders.take (k + 1)).foldl (yrS x i) sy = yrS x i yy o := by rw [htk, List.foldl_append, hyy]; rfl
          have hyr : yrS x i yy o = if shutsF x o && inF i o.f (o.t - 1) then max yy o.u else yy := rfl
          repeat' (first | (refine OblP.mk ?_ (W.mk ?_); (first | trivial | omega | (simp only [inR]; omega) | exact Nat.le_of_ble_eq_true (by rfl) | exact SlR.some (by assumption) (by omega)); (conv => whnf)) | (first | (refine RdP.at (by assumption) (by rfl) (W.mk ?_); (conv => whnf)) | (refine RdP.sub (by assumption) (by rfl) (W.mk ?_); (conv => whnf)) | (refine RdP.sub2 (by assumption) (by rfl) (W.mk ?_); (conv => whnf)) | (refine RdP.sub3 (by assumption) (by rfl) (W.mk ?_); (conv => whnf))))
          refine ScaP.g (ok2 rgRd odRd fun _ _ => True) (x := (rgOf r x, o)) ⟨_, _, rfl, ⟨_, _, _, rfl, (hgc.grow hg3).grow hg4⟩, rfl, trivial⟩ (fun v hv => W.mk ?_)
          subst hv
          dsimp only
          (conv => whnf)
          refine ForkP.mk (fun hq => W.mk ?_) (fun hq => W.mk ?_) <;> (conv => whnf)
          rotate_left
          · have hq : shutsF x o = false := hq
            rw [hq, Bool.false_and, if_neg (by simp)] at hyr
            repeat' (first | (refine OblP.mk ?_ (W.mk ?_); (first | trivial | omega | (simp only [inR]; omega) | exact Nat.le_of_ble_eq_true (by rfl) | exact SlR.some (by assumption) (by omega)); (conv => whnf)) | (first | (refine RdP.at (by assumption) (by rfl) (W.mk ?_); (conv => whnf)) | (refine RdP.sub (by assumption) (by rfl) (W.mk ?_); (conv => whnf)) | (refine RdP.sub2 (by assumption) (by rfl) (W.mk ?_); (conv => whnf)) | (refine RdP.sub3 (by assumption) (by rfl) (W.mk ?_); (conv => whnf))))
            refine RoundP.of (k + 1, yy) (HeadP.of [] ⟨rfl, rfl, rfl, rfl, rfl, rfl, rfl, rfl, rfl, rfl, trivial⟩ ⟨rfl, rfl, trivial⟩) ⟨by show k + 1 ≤ gon; omega, by rw [hst, hyr]⟩ (by simp only; omega)
          have hq : shutsF x o = true := hq
          repeat' (first | (refine OblP.mk ?_ (W.mk ?_); (first | trivial | omega | (simp only [inR]; omega) | exact Nat.le_of_ble_eq_true (by rfl) | exact SlR.some (by assumption) (by omega)); (conv => whnf)) | (first | (refine RdP.at (by assumption) (by rfl) (W.mk ?_); (conv => whnf)) | (refine RdP.sub (by assumption) (by rfl) (W.mk ?_); (conv => whnf)) | (refine RdP.sub2 (by assumption) (by rfl) (W.mk ?_); (conv => whnf)) | (refine RdP.sub3 (by assumption) (by rfl) (W.mk ?_); (conv => whnf))))
          refine OblP.mk ⟨_, _, _, rfl⟩ (W.mk ?_)
          (conv => whnf)
          refine ForkP.mk (fun hq2 => W.mk ?_) (fun hq2 => W.mk ?_) <;> (conv => whnf)
          rotate_left
          · have hq2 : inF i o.f (o.t - 1) = false := hq2
            rw [hq2, Bool.and_false, if_neg (by simp)] at hyr
            repeat' (first | (refine OblP.mk ?_ (W.mk ?_); (first | trivial | omega | (simp only [inR]; omega) | exact Nat.le_of_ble_eq_true (by rfl) | exact SlR.some (by assumption) (by omega)); (conv => whnf)) | (first | (refine RdP.at (by assumption) (by rfl) (W.mk ?_); (conv => whnf)) | (refine RdP.sub (by assumption) (by rfl) (W.mk ?_); (conv => whnf)) | (refine RdP.sub2 (by assumption) (by rfl) (W.mk ?_); (conv => whnf)) | (refine RdP.sub3 (by assumption) (by rfl) (W.mk ?_); (conv => whnf))))
            refine RoundP.of (k + 1, yy) (HeadP.of [] ⟨rfl, rfl, rfl, rfl, rfl, rfl, rfl, rfl, rfl, rfl, trivial⟩ ⟨rfl, rfl, trivial⟩) ⟨by show k + 1 ≤ gon; omega, by rw [hst, hyr]⟩ (by simp only; omega)
          have hq2 : inF i o.f (o.t - 1) = true := hq2
          rw [hq, hq2, Bool.true_and, if_pos rfl] at hyr
          refine EqP.mk ⟨_, get3c hoff, rfl, W.mk ?_⟩
          (conv => whnf)
          repeat' (first | (refine OblP.mk ?_ (W.mk ?_); (first | trivial | omega | (simp only [inR]; omega) | exact Nat.le_of_ble_eq_true (by rfl) | exact SlR.some (by assumption) (by omega)); (conv => whnf)) | (first | (refine RdP.at (by assumption) (by rfl) (W.mk ?_); (conv => whnf)) | (refine RdP.sub (by assumption) (by rfl) (W.mk ?_); (conv => whnf)) | (refine RdP.sub2 (by assumption) (by rfl) (W.mk ?_); (conv => whnf)) | (refine RdP.sub3 (by assumption) (by rfl) (W.mk ?_); (conv => whnf))))
          refine RelP.mk trivial (fun v G5 hg5 hq5 => W.mk ?_)
          obtain ⟨pa, pc, rfl, hpr⟩ := hq5
          (conv => whnf)
          refine ScaP.g (ok1 (slRd intE) fun l => 1 ≤ l.length) (x := [yy, o.u]) ⟨_, rfl, hpr.slV (e := intE) rfl rfl (by omega), by simp⟩ (fun v hv => W.mk ?_)
          subst hv
          (conv => whnf)
          refine OblP.mk (by show _ ≤ List.length _; rw [hoff]; simp) (W.mk ?_)
          refine den_setR_eq (set3c hoff) ?_
          (conv => whnf)
          repeat' (first | (refine OblP.mk ?_ (W.mk ?_); (first | trivial | omega | (simp only [inR]; omega) | exact Nat.le_of_ble_eq_true (by rfl) | exact SlR.some (by assumption) (by omega)); (conv => whnf)) | (first | (refine RdP.at (by assumption) (by rfl) (W.mk ?_); (conv => whnf)) | (refine RdP.sub (by assumption) (by rfl) (W.mk ?_); (conv => whnf)) | (refine RdP.sub2 (by assumption) (by rfl) (W.mk ?_); (conv => whnf)) | (refine RdP.sub3 (by assumption) (by rfl) (W.mk ?_); (conv => whnf))))
          refine RoundP.of (k + 1, max yy o.u) (HeadP.of [] ⟨rfl, rfl, rfl, rfl, rfl, rfl, rfl, rfl, rfl, rfl, trivial⟩ ⟨rfl, rfl, trivial⟩) ⟨by show k + 1 ≤ gon; omega, by rw [hst, hyr]⟩ (by simp only; omega)
        · have hke : k = r.orders.length := by omega
          rw [hke, List.take_length] at hyy
          repeat' (first | (refine OblP.mk ?_ (W.mk ?_); (first | trivial | omega | (simp only [inR]; omega) | exact Nat.le_of_ble_eq_true (by rfl) | exact SlR.some (by assumption) (by omega)); (conv => whnf)) | (first | (refine RdP.at (by assumption) (by rfl) (W.mk ?_); (conv => whnf)) | (refine RdP.sub (by assumption) (by rfl) (W.mk ?_); (conv => whnf)) | (refine RdP.sub2 (by assumption) (by rfl) (W.mk ?_); (conv => whnf)) | (refine RdP.sub3 (by assumption) (by rfl) (W.mk ?_); (conv => whnf))))
          refine RoundP.of (i + 1, (n + 1), pre ++ [I sf, I ((i : Int) + 1), I yy]) (HeadP.of [(1, some 48)] ⟨rfl, rfl, rfl, rfl, rfl, trivial⟩ ⟨rfl, rfl, trivial⟩) ⟨by show i + 1 ≤ gwn; omega, ?_⟩ (by simp only; omega)
          rw [hcl, ← hyy]
          exact hIn ⟨sf, (i : Int) + 1, yy⟩
      · have h0 : ¬ i = 0 := by have h0 : ¬ (i : Int) = 0 := h0; omega
        cases hpj : (rgOf r x).p (i - 1) with
        | false =>
          have hI : clI (rgOf r x) i (clK (rgOf r x) i) = clK (rgOf r x) i ++ [⟨i, 0, 0⟩] := if_pos (.inr hpj)
          have hrow2 : Row shE (clI (rgOf r x) i (clK (rgOf r x) i)) (n + 1) (vs ++ [I i, I 0, I 0]) := by rw [hI]; exact hrow.snoc ⟨i, 0, 0⟩
          clear hI
          have hev := rg_eqs (w := .slice gwa gwn gwc) (o := .slice goa gon goc) (m := .slice gma gmn gmc) (c := r.cols) (y := x.year) (show i - 1 < 60 by omega) hpj
          rw [show ((i - 1 : Nat) : Int) = (i : Int) - 1 by omega] at hev
          repeat' (first | (refine OblP.mk ?_ (W.mk ?_); (first | trivial | omega | (simp only [inR]; omega) | exact Nat.le_of_ble_eq_true (by rfl) | exact SlR.some (by assumption) (by omega)); (conv => whnf)) | (first | (refine RdP.at (by assumption) (by rfl) (W.mk ?_); (conv => whnf)) | (refine RdP.sub (by assumption) (by rfl) (W.mk ?_); (conv => whnf)) | (refine RdP.sub2 (by assumption) (by rfl) (W.mk ?_); (conv => whnf)) | (refine RdP.sub3 (by assumption) (by rfl) (W.mk ?_); (conv => whnf))))
          refine EqsP.mk ⟨_, hev, rfl, W.mk ?_⟩
          (conv => whnf)
          repeat' (first | (refine OblP.mk rfl (W.mk ?_); (conv => whnf)) | (refine OblP.mk (by omega) (W.mk ?_); (conv => whnf)) | (first | (refine RdP.at (by assumption) (by rfl) (W.mk ?_); (conv => whnf)) | (refine RdP.sub (by assumption) (by rfl) (W.mk ?_); (conv => whnf)) | (refine RdP.sub2 (by assumption) (by rfl) (W.mk ?_); (conv => whnf)) | (refine RdP.sub3 (by assumption) (by rfl) (W.mk ?_); (conv => whnf))))
          have hn1 : 1 ≤ (n + 1) := by have := hrow2; have h1 := this.n; omega
          obtain ⟨L0, s, hL, hvs, hpl⟩ := row_last hrow2 hn1
          have hvl : ((vs ++ [I i, I 0, I 0])).length = (L0.map shE.f).flatten.length + 3 := by rw [hvs]; simp
          generalize hpre : (L0.map shE.f).flatten = pre at hpl hvs hvl
          have hoff : ((((n + 1) : Nat) : Int) - 1).toNat * 3 = pre.length := by rw [hpl]; congr 1; omega
          obtain ⟨sf, st, sy⟩ := s
          have hcl : clK (rgOf r x) (i + 1) = L0 ++ [⟨sf, (i : Int) + 1, r.orders.foldl (yrS x i) sy⟩] := by
            simp only [clK, hpi, if_true]
            rw [hL, setL_snoc, lastY_snoc]; rfl
          repeat' (first | (refine OblP.mk (by simp only [inR]; omega) (W.mk ?_); (conv => whnf)) | (refine OblP.mk ⟨by omega, by omega⟩ (W.mk ?_); (conv => whnf)) | (refine OblP.mk rfl (W.mk ?_); (conv => whnf)) | (first | (refine RdP.at (by assumption) (by rfl) (W.mk ?_); (conv => whnf)) | (refine RdP.sub (by assumption) (by rfl) (W.mk ?_); (conv => whnf)) | (refine RdP.sub2 (by assumption) (by rfl) (W.mk ?_); (conv => whnf)) | (refine RdP.sub3 (by assumption) (by rfl) (W.mk ?_); (conv => whnf))))
          refine OblP.mk (by show _ ≤ List.length ((vs ++ [I i, I 0, I 0])); rw [hvl, hoff]; omega) (W.mk ?_)
          refine den_setR_eq (set3v (vs := (vs ++ [I i, I 0, I 0])) hvs hoff) ?_
          (conv => whnf)
          repeat' (first | (refine OblP.mk ?_ (W.mk ?_); (first | trivial | omega | (simp only [inR]; omega) | exact Nat.le_of_ble_eq_true (by rfl) | exact SlR.some (by assumption) (by omega)); (conv => whnf)) | (first | (refine RdP.at (by assumption) (by rfl) (W.mk ?_); (conv => whnf)) | (refine RdP.sub (by assumption) (by rfl) (W.mk ?_); (conv => whnf)) | (refine RdP.sub2 (by assumption) (by rfl) (W.mk ?_); (conv => whnf)) | (refine RdP.sub3 (by assumption) (by rfl) (W.mk ?_); (conv => whnf))))
          have hIn : ∀ z, Row shE (L0 ++ [z]) (n + 1) (pre ++ [I z.f, I z.t, I z.y]) := fun z => ⟨by have h1 := (hrow2).n; rw [h1, hL]; simp, by rw [← hpre]; simp [shE]⟩
          refine LoopP.of { α := Nat × Int, fr := fun y => [(6, .c (.ptr 10 0)), (8, .c (.row 48 (n + 1))), (9, .v (I i)), (10, .c (.rptr 48 (((((n + 1) : Nat) : Int) - 1).toNat * 3))), (24, .v (.slice gwa gwn gwc)), (25, .v (I gwn)), (26, .v (I i)), (63, .v (.slice goa gon goc)), (64, .v (I gon)), (65, .v (I y.1))], H := fun y => [(10, .cells .anon ((rgl (.slice gwa gwn gwc) (.slice goa gon goc) (.slice gma gmn gmc) r.cols x.year (rgOf r x).p).map .val) 97), (48, .row none (n + 1) (pre ++ [I sf, I ((i : Int) + 1), I y.2]) 55 3)], ok := fun y _ => y.1 ≤ gon ∧ y.2 = (r.orders.take y.1).foldl (yrS x i) sy, m := fun y => gon - y.1 }
            (0, sy) (HeadP.of [] ⟨rfl, rfl, rfl, rfl, rfl, rfl, rfl, rfl, rfl, rfl, trivial⟩ ⟨rfl, rfl, trivial⟩) ⟨Nat.zero_le _, rfl⟩ (fun _ => ⟨rfl, rfl⟩) (fun y G4 hg4 hx => W.mk ?_)
          obtain ⟨k, yy⟩ := y
          obtain ⟨hk, hyy⟩ := hx
          dsimp only at hk hyy
          dsimp only
          (conv => whnf)
          refine IteP.mk (fun hlt => W.mk ?_) (fun hge => W.mk ?_) <;> (conv => whnf)
          · have hlt : k < r.orders.length := by omega
            have hc := (SlR.grow (G := G1) (G' := G4) (fun _ _ h => h) ho1 (hg3.trans hg4)).el hlt
            have htk := take_snoc (List.getElem?_eq_getElem hlt)
            have hb := hfn.o _ (List.getElem_mem hlt)
            generalize r.orders[k] = o at hc htk hb
            have hc : CellsAt G4 (ab goa) (ao goa + k * 4) [I o.f, I o.t, I o.k, I o.u] := hc
            have hst : (r.orders.take (k + 1)).foldl (yrS x i) sy = yrS x i yy o := by rw [htk, List.foldl_append, hyy]; rfl
            have hyr : yrS x i yy o = if shutsF x o && inF i o.f (o.t - 1) then max yy o.u else yy := rfl
            repeat' (first | (refine OblP.mk ?_ (W.mk ?_); (first | trivial | omega | (simp only [inR]; omega) | exact Nat.le_of_ble_eq_true (by rfl) | exact SlR.some (by assumption) (by omega)); (conv => whnf)) | (first | (refine RdP.at (by assumption) (by rfl) (W.mk ?_); (conv => whnf)) | (refine RdP.sub (by assumption) (by rfl) (W.mk ?_); (conv => whnf)) | (refine RdP.sub2 (by assumption) (by rfl) (W.mk ?_); (conv => whnf)) | (refine RdP.sub3 (by assumption) (by rfl) (W.mk ?_); (conv => whnf))))
            refine ScaP.g (ok2 rgRd odRd fun _ _ => True) (x := (rgOf r x, o)) ⟨_, _, rfl, ⟨_, _, _, rfl, (hgc.grow hg3).grow hg4⟩, rfl, trivial⟩ (fun v hv => W.mk ?_)
            subst hv
            dsimp only
            (conv => whnf)
            refine ForkP.mk (fun hq => W.mk ?_) (fun hq => W.mk ?_) <;> (conv => whnf)
            rotate_left
            · have hq : shutsF x o = false := hq
              rw [hq, Bool.false_and, if_neg (by simp)] at hyr
              repeat' (first | (refine OblP.mk ?_ (W.mk ?_); (first | trivial | omega | (simp only [inR]; omega) | exact Nat.le_of_ble_eq_true (by rfl) | exact SlR.some (by assumption) (by omega)); (conv => whnf)) | (first | (refine RdP.at (by assumption) (by rfl) (W.mk ?_); (conv => whnf)) | (refine RdP.sub (by assumption) (by rfl) (W.mk ?_); (conv => whnf)) | (refine RdP.sub2 (by assumption) (by rfl) (W.mk ?_); (conv => whnf)) | (refine RdP.sub3 (by assumption) (by rfl) (W.mk ?_); (conv => whnf))))
              refine RoundP.of (k + 1, yy) (HeadP.of [] ⟨rfl, rfl, rfl, rfl, rfl, rfl, rfl, rfl, rfl, rfl, trivial⟩ ⟨rfl, rfl, trivial⟩) ⟨by show k + 1 ≤ gon; omega, by rw [hst, hyr]⟩ (by simp only; omega)
            have hq : shutsF x o = true := hq
            repeat' (first | (refine OblP.mk ?_ (W.mk ?_); (first | trivial | omega | (simp only [inR]; omega) | exact Nat.le_of_ble_eq_true (by rfl) | exact SlR.some (by assumption) (by omega)); (conv => whnf)) | (first | (refine RdP.at (by assumption) (by rfl) (W.mk ?_); (conv => whnf)) | (refine RdP.sub (by assumption) (by rfl) (W.mk ?_); (conv => whnf)) | (refine RdP.sub2 (by assumption) (by rfl) (W.mk ?_); (conv => whnf)) | (refine RdP.sub3 (by assumption) (by rfl) (W.mk ?_); (conv => whnf))))
            refine OblP.mk ⟨_, _, _, rfl⟩ (W.mk ?_)
            (conv => whnf)
            refine ForkP.mk (fun hq2 => W.mk ?_) (fun hq2 => W.mk ?_) <;> (conv => whnf)
            rotate_left
            · have hq2 : inF i o.f (o.t - 1) = false := hq2
              rw [hq2, Bool.and_false, if_neg (by simp)] at hyr
              repeat' (first | (refine OblP.mk ?_ (W.mk ?_); (first | trivial | omega | (simp only [inR]; omega) | exact Nat.le_of_ble_eq_true (by rfl) | exact SlR.some (by assumption) (by omega)); (conv => whnf)) | (first | (refine RdP.at (by assumption) (by rfl) (W.mk ?_); (conv => whnf)) | (refine RdP.sub (by assumption) (by rfl) (W.mk ?_); (conv => whnf)) | (refine RdP.sub2 (by assumption) (by rfl) (W.mk ?_); (conv => whnf)) | (refine RdP.sub3 (by assumption) (by rfl) (W.mk ?_); (conv => whnf))))
              refine RoundP.of (k + 1, yy) (HeadP.of [] ⟨rfl, rfl, rfl, rfl, rfl, rfl, rfl, rfl, rfl, rfl, trivial⟩ ⟨rfl, rfl, trivial⟩) ⟨by show k + 1 ≤ gon; omega, by rw [hst, hyr]⟩ (by simp only; omega)
            have hq2 : inF i o.f (o.t - 1) = true := hq2
            rw [hq, hq2, Bool.true_and, if_pos rfl] at hyr
            refine EqP.mk ⟨_, get3c hoff, rfl, W.mk ?_⟩
            (conv => whnf)
            repeat' (first | (refine OblP.mk ?_ (W.mk ?_); (first | trivial | omega | (simp only [inR]; omega) | exact Nat.le_of_ble_eq_true (by rfl) | exact SlR.some (by assumption) (by omega)); (conv => whnf)) | (first | (refine RdP.at (by assumption) (by rfl) (W.mk ?_); (conv => whnf)) | (refine RdP.sub (by assumption) (by rfl) (W.mk ?_); (conv => whnf)) | (refine RdP.sub2 (by assumption) (by rfl) (W.mk ?_); (conv => whnf)) | (refine RdP.sub3 (by assumption) (by rfl) (W.mk ?_); (conv => whnf))))
            refine RelP.mk trivial (fun v G5 hg5 hq5 => W.mk ?_)
            obtain ⟨pa, pc, rfl, hpr⟩ := hq5
            (conv => whnf)
            refine ScaP.g (ok1 (slRd intE) fun l => 1 ≤ l.length) (x := [yy, o.u]) ⟨_, rfl, hpr.slV (e := intE) rfl rfl (by omega), by simp⟩ (fun v hv => W.mk ?_)
            subst hv
            (conv => whnf)
            refine OblP.mk (by show _ ≤ List.length _; rw [hoff]; simp) (W.mk ?_)
            refine den_setR_eq (set3c hoff) ?_
            (conv => whnf)
            repeat' (first | (refine OblP.mk ?_ (W.mk ?_); (first | trivial | omega | (simp only [inR]; omega) | exact Nat.le_of_ble_eq_true (by rfl) | exact SlR.some (by assumption) (by omega)); (conv => whnf)) | (first | (refine RdP.at (by assumption) (by rfl) (W.mk ?_); (conv => whnf)) | (refine RdP.sub (by assumption) (by rfl) (W.mk ?_); (conv => whnf)) | (refine RdP.sub2 (by assumption) (by rfl) (W.mk ?_); (conv => whnf)) | (refine RdP.sub3 (by assumption) (by rfl) (W.mk ?_); (conv => whnf))))
            refine RoundP.of (k + 1, max yy o.u) (HeadP.of [] ⟨rfl, rfl, rfl, rfl, rfl, rfl, rfl, rfl, rfl, rfl, trivial⟩ ⟨rfl, rfl, trivial⟩) ⟨by show k + 1 ≤ gon; omega, by rw [hst, hyr]⟩ (by simp only; omega)
          · have hke : k = r.orders.length := by omega
            rw [hke, List.take_length] at hyy
            repeat' (first | (refine OblP.mk ?_ (W.mk ?_); (first | trivial | omega | (simp only [inR]; omega) | exact Nat.le_of_ble_eq_true (by rfl) | exact SlR.some (by assumption) (by omega)); (conv => whnf)) | (first | (refine RdP.at (by assumption) (by rfl) (W.mk ?_); (conv => whnf)) | (refine RdP.sub (by assumption) (by rfl) (W.mk ?_); (conv => whnf)) | (refine RdP.sub2 (by assumption) (by rfl) (W.mk ?_); (conv => whnf)) | (refine RdP.sub3 (by assumption) (by rfl) (W.mk ?_); (conv => whnf))))
            refine RoundP.of (i + 1, (n + 1), pre ++ [I sf, I ((i : Int) + 1), I yy]) (HeadP.of [(1, some 48)] ⟨rfl, rfl, rfl, rfl, rfl, trivial⟩ ⟨rfl, rfl, trivial⟩) ⟨by show i + 1 ≤ gwn; omega, ?_⟩ (by simp only; omega)
            rw [hcl, ← hyy]
            exact hIn ⟨sf, (i : Int) + 1, yy⟩
        | true =>
          have hI : clI (rgOf r x) i (clK (rgOf r x) i) = clK (rgOf r x) i := if_neg (by rw [hpj]; simp; exact h0)
          have hrow2 : Row shE (clI (rgOf r x) i (clK (rgOf r x) i)) n vs := by rw [hI]; exact hrow
          clear hI
          have hn0 : 1 ≤ n := by
            have h5 := clK_ne (rgOf r x) (i - 1) hpj
            rw [show i - 1 + 1 = i by omega] at h5
            have := List.length_pos_iff.2 h5
            omega
          have hev := rg_eqs (w := .slice gwa gwn gwc) (o := .slice goa gon goc) (m := .slice gma gmn gmc) (c := r.cols) (y := x.year) (show i - 1 < 60 by omega) hpj
          rw [show ((i - 1 : Nat) : Int) = (i : Int) - 1 by omega] at hev
          repeat' (first | (refine OblP.mk ?_ (W.mk ?_); (first | trivial | omega | (simp only [inR]; omega) | exact Nat.le_of_ble_eq_true (by rfl) | exact SlR.some (by assumption) (by omega)); (conv => whnf)) | (first | (refine RdP.at (by assumption) (by rfl) (W.mk ?_); (conv => whnf)) | (refine RdP.sub (by assumption) (by rfl) (W.mk ?_); (conv => whnf)) | (refine RdP.sub2 (by assumption) (by rfl) (W.mk ?_); (conv => whnf)) | (refine RdP.sub3 (by assumption) (by rfl) (W.mk ?_); (conv => whnf))))
          refine EqsP.mk ⟨_, hev, rfl, W.mk ?_⟩
          (conv => whnf)
          repeat' (first | (refine OblP.mk rfl (W.mk ?_); (conv => whnf)) | (refine OblP.mk (by omega) (W.mk ?_); (conv => whnf)) | (first | (refine RdP.at (by assumption) (by rfl) (W.mk ?_); (conv => whnf)) | (refine RdP.sub (by assumption) (by rfl) (W.mk ?_); (conv => whnf)) | (refine RdP.sub2 (by assumption) (by rfl) (W.mk ?_); (conv => whnf)) | (refine RdP.sub3 (by assumption) (by rfl) (W.mk ?_); (conv => whnf))))
          have hn1 : 1 ≤ n := by have := hrow2; have h1 := this.n; omega
          obtain ⟨L0, s, hL, hvs, hpl⟩ := row_last hrow2 hn1
          have hvl : (vs).length = (L0.map shE.f).flatten.length + 3 := by rw [hvs]; simp
          generalize hpre : (L0.map shE.f).flatten = pre at hpl hvs hvl
          have hoff : (((n : Nat) : Int) - 1).toNat * 3 = pre.length := by rw [hpl]; congr 1; omega
          obtain ⟨sf, st, sy⟩ := s
          have hcl : clK (rgOf r x) (i + 1) = L0 ++ [⟨sf, (i : Int) + 1, r.orders.foldl (yrS x i) sy⟩] := by
            simp only [clK, hpi, if_true]
            rw [hL, setL_snoc, lastY_snoc]; rfl
          repeat' (first | (refine OblP.mk (by simp only [inR]; omega) (W.mk ?_); (conv => whnf)) | (refine OblP.mk ⟨by omega, by omega⟩ (W.mk ?_); (conv => whnf)) | (refine OblP.mk rfl (W.mk ?_); (conv => whnf)) | (first | (refine RdP.at (by assumption) (by rfl) (W.mk ?_); (conv => whnf)) | (refine RdP.sub (by assumption) (by rfl) (W.mk ?_); (conv => whnf)) | (refine RdP.sub2 (by assumption) (by rfl) (W.mk ?_); (conv => whnf)) | (refine RdP.sub3 (by assumption) (by rfl) (W.mk ?_); (conv => whnf))))
          refine OblP.mk (by show _ ≤ List.length (vs); rw [hvl, hoff]; omega) (W.mk ?_)
          refine den_setR_eq (set3v (vs := vs) hvs hoff) ?_
          (conv => whnf)
          repeat' (first | (refine OblP.mk ?_ (W.mk ?_); (first | trivial | omega | (simp only [inR]; omega) | exact Nat.le_of_ble_eq_true (by rfl) | exact SlR.some (by assumption) (by omega)); (conv => whnf)) | (first | (refine RdP.at (by assumption) (by rfl) (W.mk ?_); (conv => whnf)) | (refine RdP.sub (by assumption) (by rfl) (W.mk ?_); (conv => whnf)) | (refine RdP.sub2 (by assumption) (by rfl) (W.mk ?_); (conv => whnf)) | (refine RdP.sub3 (by assumption) (by rfl) (W.mk ?_); (conv => whnf))))
          have hIn : ∀ z, Row shE (L0 ++ [z]) n (pre ++ [I z.f, I z.t, I z.y]) := fun z => ⟨by have h1 := (hrow2).n; rw [h1, hL]; simp, by rw [← hpre]; simp [shE]⟩
          refine LoopP.of { α := Nat × Int, fr := fun y => [(6, .c (.ptr 10 0)), (8, .c (.row 1 n)), (9, .v (I i)), (10, .c (.rptr 1 ((((n : Nat) : Int) - 1).toNat * 3))), (24, .v (.slice gwa gwn gwc)), (25, .v (I gwn)), (26, .v (I i)), (63, .v (.slice goa gon goc)), (64, .v (I gon)), (65, .v (I y.1))], H := fun y => [(10, .cells .anon ((rgl (.slice gwa gwn gwc) (.slice goa gon goc) (.slice gma gmn gmc) r.cols x.year (rgOf r x).p).map .val) 97), (1, .row none n (pre ++ [I sf, I ((i : Int) + 1), I y.2]) 55 3)], ok := fun y _ => y.1 ≤ gon ∧ y.2 = (r.orders.take y.1).foldl (yrS x i) sy, m := fun y => gon - y.1 }
            (0, sy) (HeadP.of [] ⟨rfl, rfl, rfl, rfl, rfl, rfl, rfl, rfl, rfl, rfl, trivial⟩ ⟨rfl, rfl, trivial⟩) ⟨Nat.zero_le _, rfl⟩ (fun _ => ⟨rfl, rfl⟩) (fun y G4 hg4 hx => W.mk ?_)
          obtain ⟨k, yy⟩ := y
          obtain ⟨hk, hyy⟩ := hx
          dsimp only at hk hyy
          dsimp only
          (conv => whnf)
          refine IteP.mk (fun hlt => W.mk ?_) (fun hge => W.mk ?_) <;> (conv => whnf)
          · have hlt : k < r.orders.length := by omega
            have hc := (SlR.grow (G := G1) (G' := G4) (fun _ _ h => h) ho1 (hg3.trans hg4)).el hlt
            have htk := take_snoc (List.getElem?_eq_getElem hlt)
            have hb := hfn.o _ (List.getElem_mem hlt)
            generalize r.orders[k] = o at hc htk hb
            have hc : CellsAt G4 (ab goa) (ao goa + k * 4) [I o.f, I o.t, I o.k, I o.u] := hc
            have hst : (r.orders.take (k + 1)).foldl (yrS x i) sy = yrS x i yy o := by rw [htk, List.foldl_append, hyy]; rfl
            have hyr : yrS x i yy o = if shutsF x o && inF i o.f (o.t - 1) then max yy o.u else yy := rfl
            repeat' (first | (refine OblP.mk ?_ (W.mk ?_); (first | trivial | omega | (simp only [inR]; omega) | exact Nat.le_of_ble_eq_true (by rfl) | exact SlR.some (by assumption) (by omega)); (conv => whnf)) | (first | (refine RdP.at (by assumption) (by rfl) (W.mk ?_); (conv => whnf)) | (refine RdP.sub (by assumption) (by rfl) (W.mk ?_); (conv => whnf)) | (refine RdP.sub2 (by assumption) (by rfl) (W.mk ?_); (conv => whnf)) | (refine RdP.sub3 (by assumption) (by rfl) (W.mk ?_); (conv => whnf))))
            refine ScaP.g (ok2 rgRd odRd fun _ _ => True) (x := (rgOf r x, o)) ⟨_, _, rfl, ⟨_, _, _, rfl, (hgc.grow hg3).grow hg4⟩, rfl, trivial⟩ (fun v hv => W.mk ?_)
            subst hv
            dsimp only
            (conv => whnf)
            refine ForkP.mk (fun hq => W.mk ?_) (fun hq => W.mk ?_) <;> (conv => whnf)
            rotate_left
            · have hq : shutsF x o = false := hq
              rw [hq, Bool.false_and, if_neg (by simp)] at hyr
              repeat' (first | (refine OblP.mk ?_ (W.mk ?_); (first | trivial | omega | (simp only [inR]; omega) | exact Nat.le_of_ble_eq_true (by rfl) | exact SlR.some (by assumption) (by omega)); (conv => whnf)) | (first | (refine RdP.at (by assumption) (by rfl) (W.mk ?_); (conv => whnf)) | (refine RdP.sub (by assumption) (by rfl) (W.mk ?_); (conv => whnf)) | (refine RdP.sub2 (by assumption) (by rfl) (W.mk ?_); (conv => whnf)) | (refine RdP.sub3 (by assumption) (by rfl) (W.mk ?_); (conv => whnf))))
              refine RoundP.of (k + 1, yy) (HeadP.of [] ⟨rfl, rfl, rfl, rfl, rfl, rfl, rfl, rfl, rfl, rfl, trivial⟩ ⟨rfl, rfl, trivial⟩) ⟨by show k + 1 ≤ gon; omega, by rw [hst, hyr]⟩ (by simp only; omega)
            have hq : shutsF x o = true := hq
            repeat' (first | (refine OblP.mk ?_ (W.mk ?_); (first | trivial | omega | (simp only [inR]; omega) | exact Nat.le_of_ble_eq_true (by rfl) | exact SlR.some (by assumption) (by omega)); (conv => whnf)) | (first | (refine RdP.at (by assumption) (by rfl) (W.mk ?_); (conv => whnf)) | (refine RdP.sub (by assumption) (by rfl) (W.mk ?_); (conv => whnf)) | (refine RdP.sub2 (by assumption) (by rfl) (W.mk ?_); (conv => whnf)) | (refine RdP.sub3 (by assumption) (by rfl) (W.mk ?_); (conv => whnf))))
            refine OblP.mk ⟨_, _, _, rfl⟩ (W.mk ?_)
            (conv => whnf)
            refine ForkP.mk (fun hq2 => W.mk ?_) (fun hq2 => W.mk ?_) <;> (conv => whnf)
            rotate_left
            · have hq2 : inF i o.f (o.t - 1) = false := hq2
              rw [hq2, Bool.and_false, if_neg (by simp)] at hyr
              repeat' (first | (refine OblP.mk ?_ (W.mk ?_); (first | trivial | omega | (simp only [inR]; omega) | exact Nat.le_of_ble_eq_true (by rfl) | exact SlR.some (by assumption) (by omega)); (conv => whnf)) | (first | (refine RdP.at (by assumption) (by rfl) (W.mk ?_); (conv => whnf)) | (refine RdP.sub (by assumption) (by rfl) (W.mk ?_); (conv => whnf)) | (refine RdP.sub2 (by assumption) (by rfl) (W.mk ?_); (conv => whnf)) | (refine RdP.sub3 (by assumption) (by rfl) (W.mk ?_); (conv => whnf))))
              refine RoundP.of (k + 1, yy) (HeadP.of [] ⟨rfl, rfl, rfl, rfl, rfl, rfl, rfl, rfl, rfl, rfl, trivial⟩ ⟨rfl, rfl, trivial⟩) ⟨by show k + 1 ≤ gon; omega, by rw [hst, hyr]⟩ (by simp only; omega)
            have hq2 : inF i o.f (o.t - 1) = true := hq2
            rw [hq, hq2, Bool.true_and, if_pos rfl] at hyr
            refine EqP.mk ⟨_, get3c hoff, rfl, W.mk ?_⟩
            (conv => whnf)
            repeat' (first | (refine OblP.mk ?_ (W.mk ?_); (first | trivial | omega | (simp only [inR]; omega) | exact Nat.le_of_ble_eq_true (by rfl) | exact SlR.some (by assumption) (by omega)); (conv => whnf)) | (first | (refine RdP.at (by assumption) (by rfl) (W.mk ?_); (conv => whnf)) | (refine RdP.sub (by assumption) (by rfl) (W.mk ?_); (conv => whnf)) | (refine RdP.sub2 (by assumption) (by rfl) (W.mk ?_); (conv => whnf)) | (refine RdP.sub3 (by assumption) (by rfl) (W.mk ?_); (conv => whnf))))
            refine RelP.mk trivial (fun v G5 hg5 hq5 => W.mk ?_)
            obtain ⟨pa, pc, rfl, hpr⟩ := hq5
            (conv => whnf)
            refine ScaP.g (ok1 (slRd intE) fun l => 1 ≤ l.length) (x := [yy, o.u]) ⟨_, rfl, hpr.slV (e := intE) rfl rfl (by omega), by simp⟩ (fun v hv => W.mk ?_)
            subst hv
            (conv => whnf)
            refine OblP.mk (by show _ ≤ List.length _; rw [hoff]; simp) (W.mk ?_)
            refine den_setR_eq (set3c hoff) ?_
            (conv => whnf)
            repeat' (first | (refine OblP.mk ?_ (W.mk ?_); (first | trivial | omega | (simp only [inR]; omega) | exact Nat.le_of_ble_eq_true (by rfl) | exact SlR.some (by assumption) (by omega)); (conv => whnf)) | (first | (refine RdP.at (by assumption) (by rfl) (W.mk ?_); (conv => whnf)) | (refine RdP.sub (by assumption) (by rfl) (W.mk ?_); (conv => whnf)) | (refine RdP.sub2 (by assumption) (by rfl) (W.mk ?_); (conv => whnf)) | (refine RdP.sub3 (by assumption) (by rfl) (W.mk ?_); (conv => whnf))))
            refine RoundP.of (k + 1, max yy o.u) (HeadP.of [] ⟨rfl, rfl, rfl, rfl, rfl, rfl, rfl, rfl, rfl, rfl, trivial⟩ ⟨rfl, rfl, trivial⟩) ⟨by show k + 1 ≤ gon; omega, by rw [hst, hyr]⟩ (by simp only; omega)
          · have hke : k = r.orders.length := by omega
            rw [hke, List.take_length] at hyy
            repeat' (first | (refine OblP.mk ?_ (W.mk ?_); (first | trivial | omega | (simp only [inR]; omega) | exact Nat.le_of_ble_eq_true (by rfl) | exact SlR.some (by assumption) (by omega)); (conv => whnf)) | (first | (refine RdP.at (by assumption) (by rfl) (W.mk ?_); (conv => whnf)) | (refine RdP.sub (by assumption) (by rfl) (W.mk ?_); (conv => whnf)) | (refine RdP.sub2 (by assumption) (by rfl) (W.mk ?_); (conv => whnf)) | (refine RdP.sub3 (by assumption) (by rfl) (W.mk ?_); (conv => whnf))))
            refine RoundP.of (i + 1, n, pre ++ [I sf, I ((i : Int) + 1), I yy]) (HeadP.of [] ⟨rfl, rfl, rfl, rfl, rfl, trivial⟩ ⟨rfl, rfl, trivial⟩) ⟨by show i + 1 ≤ gwn; omega, ?_⟩ (by simp only; omega)
            rw [hcl, ← hyy]
            exact hIn ⟨sf, (i : Int) + 1, yy⟩
end Go.Proofs.Ytpcpjmplgladmaa

namespace Go.Proofs.Ytpcpjmplgladmaa
open Go.Pal
set_option maxRecDepth 100000
/-- The orders below one that hold, by their indexes. -/
def holK (g : Rg) : Nat → List Int
  | 0 => []
  | i + 1 => if holdsF (g.r.orders.getD i ⟨0, 0, 0, 0⟩) g.x then holK g i ++ [(i : Int)] else holK g i
def holF (g : Rg) : List Int := holK g g.r.orders.length
theorem holK_len (g : Rg) : ∀ i, (holK g i).length ≤ i
  | 0 => by simp [holK]
  | i + 1 => by
    have := holK_len g i
    simp only [holK]
    split
    · simp; omega
    · omega
theorem holK_mem (g : Rg) : ∀ i, ∀ k ∈ holK g i, 0 ≤ k ∧ k < i
  | 0, k, h => by simp [holK] at h
  | i + 1, k, h => by
    have ih := holK_mem g i k
    simp only [holK] at h
    split at h
    · rcases List.mem_append.1 h with h | h
      · have := ih h; omega
      · simp at h; omega
    · have := ih h; omega
theorem holding61 : Sound Try.prog 61 id (grel (args1 rgRd fun g => g.r.orders.length ≤ 1000) fun g v G => SlV intE G v (holF g)) := by
  refine comp61.grel (Tab.nil _) (ok1 _ _) (fun args G s h => ?_) (fun x v G G' hg h => h.grow hg) (fun args G g h => ?_)
  · obtain ⟨v, rfl, _⟩ := h; simp
  · obtain ⟨v, rfl, ⟨w, o, m, rfl, hc⟩, hb⟩ := h
    have hgv : RgV G (.agg (rgl w o m g.r.cols g.x.year g.p).toArray) g := ⟨_, _, _, rfl, hc⟩
    obtain ⟨x0, y0, z0, rfl, lws, yws⟩ := id hc.rp.w
    obtain ⟨x1, y1, z1, rfl, los, yos⟩ := id hc.rp.o
    obtain ⟨x2, y2, z2, rfl, lms, yms⟩ := id hc.may
    have hon := los.len
    (conv => whnf)
    refine LoopP.of { α := Nat × Nat × List Value, fr := fun y => [(2, .c (.row 1 y.2.1)), (3, .v (.func (.func 68) #[.agg (rgl (.slice x0 y0 z0) (.slice x1 y1 z1) (.slice x2 y2 z2) g.r.cols g.x.year g.p).toArray] #[])), (10, .v (.slice x1 y1 z1)), (11, .v (I y1)), (12, .v (I y.1))], H := fun y => [(1, .row none y.2.1 y.2.2 3 1)], ok := fun y _ => y.1 ≤ y1 ∧ Row intE (holK g y.1) y.2.1 y.2.2, m := fun y => y1 - y.1 }
      (0, 0, []) (HeadP.of [(1, none)] ⟨rfl, rfl, rfl, rfl, rfl, trivial⟩ ⟨rfl, trivial⟩) ⟨Nat.zero_le _, Row.nil⟩ (fun _ => ⟨rfl, rfl⟩) (fun y G1 hg1 hx => W.mk ?_)
    obtain ⟨i, n, vs⟩ := y
    obtain ⟨hi, hrow⟩ := hx
    dsimp only at hi hrow
    have hrn := hrow.n
    have hkl := holK_len g i
    dsimp only
    (conv => whnf)
    refine IteP.mk (fun hlt => W.mk ?_) (fun hge => W.mk ?_) <;> (conv => whnf)
    · have hlt : i < g.r.orders.length := by omega
      have hcl := (SlR.grow (G := G) (G' := G1) (fun _ _ h => h) los hg1).el hlt
      have hst : holK g (i + 1) = if holdsF g.r.orders[i] g.x then holK g i ++ [(i : Int)] else holK g i := by simp [holK, hlt]
      generalize g.r.orders[i] = q at hcl hst
      have hcl : CellsAt G1 (ab x1) (ao x1 + i * 4) [I q.f, I q.t, I q.k, I q.u] := hcl
      repeat' (first | (refine OblP.mk ?_ (W.mk ?_); (first | trivial | omega | (simp only [inR]; omega) | exact Nat.le_of_ble_eq_true (by rfl) | exact SlR.some (by assumption) (by omega)); (conv => whnf)) | (first | (refine RdP.at (by assumption) (by rfl) (W.mk ?_); (conv => whnf)) | (refine RdP.sub (by assumption) (by rfl) (W.mk ?_); (conv => whnf)) | (refine RdP.sub2 (by assumption) (by rfl) (W.mk ?_); (conv => whnf)) | (refine RdP.sub3 (by assumption) (by rfl) (W.mk ?_); (conv => whnf))))
      refine CallvP.fn _ (SoundFn.of body68 (Sound.first (.agg (rgl (.slice x0 y0 z0) (.slice x1 y1 z1) (.slice x2 y2 z2) g.r.cols g.x.year g.p).toArray) holds68)) (W.mk ?_)
      (conv => whnf)
      refine ScaP.g (ok2 rgRd odRd fun _ _ => True) (x := (g, q)) ⟨_, _, rfl, rgRd.grow hg1 hgv, rfl, trivial⟩ (fun v hv => W.mk ?_)
      subst hv
      dsimp only
      (conv => whnf)
      refine ForkP.mk (fun hq => W.mk ?_) (fun hq => W.mk ?_) <;> (conv => whnf)
      · rw [if_pos hq] at hst
        repeat' (first | (refine OblP.mk rfl (W.mk ?_); (conv => whnf)) | (refine OblP.mk ?_ (W.mk ?_); (first | trivial | omega | (simp only [inR]; omega) | exact Nat.le_of_ble_eq_true (by rfl) | exact SlR.some (by assumption) (by omega)); (conv => whnf)) | (first | (refine RdP.at (by assumption) (by rfl) (W.mk ?_); (conv => whnf)) | (refine RdP.sub (by assumption) (by rfl) (W.mk ?_); (conv => whnf)) | (refine RdP.sub2 (by assumption) (by rfl) (W.mk ?_); (conv => whnf)) | (refine RdP.sub3 (by assumption) (by rfl) (W.mk ?_); (conv => whnf))))
        refine RoundP.of (i + 1, n + 1, vs ++ [I i]) (HeadP.of [(1, some 23)] ⟨rfl, rfl, rfl, rfl, rfl, trivial⟩ ⟨rfl, trivial⟩) ⟨by show i + 1 ≤ y1; omega, ?_⟩ (by simp only; omega)
        rw [hst]
        exact hrow.snoc (i : Int)
      · rw [if_neg (by rw [hq]; simp)] at hst
        repeat' (first | (refine OblP.mk rfl (W.mk ?_); (conv => whnf)) | (refine OblP.mk ?_ (W.mk ?_); (first | trivial | omega | (simp only [inR]; omega) | exact Nat.le_of_ble_eq_true (by rfl) | exact SlR.some (by assumption) (by omega)); (conv => whnf)) | (first | (refine RdP.at (by assumption) (by rfl) (W.mk ?_); (conv => whnf)) | (refine RdP.sub (by assumption) (by rfl) (W.mk ?_); (conv => whnf)) | (refine RdP.sub2 (by assumption) (by rfl) (W.mk ?_); (conv => whnf)) | (refine RdP.sub3 (by assumption) (by rfl) (W.mk ?_); (conv => whnf))))
        refine RoundP.of (i + 1, n, vs) (HeadP.of [] ⟨rfl, rfl, rfl, rfl, rfl, trivial⟩ ⟨rfl, trivial⟩) ⟨by show i + 1 ≤ y1; omega, ?_⟩ (by simp only; omega)
        rw [hst]
        exact hrow
    · have hie : i = g.r.orders.length := by omega
      subst hie
      refine PubP.mk (fun a1 c1 G2 hg2 hp => W.mk ?_)
      (conv => whnf)
      exact FinP.mk (hrow.pub hp (by omega))
/-- What some orders hide. -/
def byF (g : Rg) (l : List Int) : Nat → Bool := l.foldl (fun p k => hideF p (g.r.orders.getD k.toNat ⟨0, 0, 0, 0⟩)) fun _ => false
structure ByOk (g : Rg) (l : List Int) : Prop where
  i : ∀ k ∈ l, 0 ≤ k ∧ k < g.r.orders.length
  o : ∀ o ∈ g.r.orders, 0 ≤ o.f ∧ o.f ≤ o.t ∧ o.t ≤ 60
def nmOB2 (nm : Option Nat) (vs : List Value) : OB := match nm with
  | none => .cells .anon (vs.map .val) 95
  | some b => .cells (.named b) (vs.map S1.of) 95
theorem by62 : Sound Try.prog 62 id (gsca (args2 rgRd (slRd intE) ByOk) fun p v => v = .agg (vll (byF p.1 p.2)).toArray) := by
  refine comp62.gsca (Tab.nil _) (fun args G s h => ?_) (fun args G p h => ?_)
  · obtain ⟨v, w, rfl, _⟩ := h; simp
  · obtain ⟨g, l⟩ := p
    obtain ⟨u, v, rfl, ⟨w, o, m, rfl, hc⟩, ⟨a, n, c, rfl, hl, hn⟩, hb0⟩ := h
    dsimp only at hc hl hb0
    obtain ⟨x0, y0, z0, rfl, lws, yws⟩ := id hc.rp.w
    obtain ⟨x1, y1, z1, rfl, los, yos⟩ := id hc.rp.o
    obtain ⟨x2, y2, z2, rfl, lms, yms⟩ := id hc.may
    have hon := los.len
    have hln := hl.len
    dsimp only
    (conv => whnf)
    refine LoopP.of { α := Nat × Option Nat × (Nat → Bool), fr := fun y => [(2, .c (.ptr 0 0)), (4, .c (.ptr 1 0)), (7, .v (.slice a n c)), (8, .v (I n)), (9, .v (I y.1))], H := fun y => [(0, .cells .anon ((rgl (.slice x0 y0 z0) (.slice x1 y1 z1) (.slice x2 y2 z2) g.r.cols g.x.year g.p).map .val) 97), (1, nmOB2 y.2.1 (([] : List Value) ++ vll y.2.2))], ok := fun y _ => y.1 ≤ l.length ∧ y.2.2 = byF g (l.take y.1), m := fun y => l.length - y.1 }
      (0, none, fun _ => false) (HeadP.of [] ⟨rfl, rfl, rfl, rfl, rfl, trivial⟩ ⟨rfl, rfl, trivial⟩) ⟨Nat.zero_le _, rfl⟩ (fun y => ⟨rfl, (by obtain ⟨i, nm, q⟩ := y; cases nm <;> rfl)⟩) (fun y G1 hg1 hx => W.mk ?_)
    obtain ⟨i, nm, q⟩ := y
    obtain ⟨hi, hqe⟩ := hx
    dsimp only at hi hqe
    dsimp only
    cases nm with
    | none =>
      (conv => whnf)
      refine IteP.mk (fun hlt => W.mk ?_) (fun hge => W.mk ?_) <;> (conv => whnf)
      · have hlt : i < l.length := by omega
        have hcl := (SlR.grow (G := G) (G' := G1) (fun _ _ h => h) hl hg1).el hlt
        have htk := take_snoc (List.getElem?_eq_getElem hlt)
        have hki := hb0.i _ (List.getElem_mem hlt)
        generalize l[i] = kk at hcl htk hki
        obtain ⟨k, rfl⟩ : ∃ k : Nat, kk = k := ⟨kk.toNat, by omega⟩
        have hk : k < g.r.orders.length := by omega
        have hco := (SlR.grow (G := G) (G' := G1) (fun _ _ h => h) los hg1).el hk
        have hb := hb0.o _ (List.getElem_mem hk)
        have hst : byF g (l.take (i + 1)) = hideF q g.r.orders[k] := by
          rw [htk, byF, List.foldl_append, hqe]
          simp [byF, hk]
        generalize g.r.orders[k] = o at hco hb hst
        have hco : CellsAt G1 (ab x1) (ao x1 + k * 4) [I o.f, I o.t, I o.k, I o.u] := hco
        repeat' (first | (refine OblP.mk ?_ (W.mk ?_); (first | trivial | omega | (simp only [inR]; omega) | exact Nat.le_of_ble_eq_true (by rfl) | exact SlR.some (by assumption) (by omega)); (conv => whnf)) | (first | (refine RdP.at (by assumption) (by rfl) (W.mk ?_); (conv => whnf)) | (refine RdP.sub (by assumption) (by rfl) (W.mk ?_); (conv => whnf)) | (refine RdP.sub2 (by assumption) (by rfl) (W.mk ?_); (conv => whnf)) | (refine RdP.sub3 (by assumption) (by rfl) (W.mk ?_); (conv => whnf))))
        refine NameP.mk (fun b => W.mk ?_)
        (conv => whnf)
        refine CallN.mk ⟨_, hide69n 95 b q o hb.1 hb.2.1 hb.2.2, body69, W.mk ?_⟩
        (conv => whnf)
        refine StP.mk ⟨[(1, ⟨b, true, .cells (([] : List Value) ++ vll q) 95⟩)], ⟨⟨_, rfl, rfl⟩, trivial⟩, (by show ([1] : List Nat).Nodup; decide), ⟨rfl, rfl⟩, fun v ns G3 hg3 hpost => W.mk ?_⟩
        obtain ⟨rfl, rfl⟩ := hpost
        (conv => whnf)
        (refine OblP.mk ?_ (W.mk ?_); (first | trivial | omega | (simp only [inR]; omega) | exact Nat.le_of_ble_eq_true (by rfl) | exact SlR.some (by assumption) (by omega)); (conv => whnf))
        refine RoundP.of (i + 1, some b, hideF q o) (HeadP.of [] ⟨rfl, rfl, rfl, rfl, rfl, trivial⟩ ⟨rfl, rfl, trivial⟩) ⟨hlt, hst.symm⟩ (by simp only; omega)
      · have hie : i = l.length := by omega
        subst hie
        rw [List.take_length] at hqe
        refine FinP.mk ?_
        rw [hqe]; rfl
    | some b =>
      (conv => whnf)
      refine IteP.mk (fun hlt => W.mk ?_) (fun hge => W.mk ?_) <;> (conv => whnf)
      · have hlt : i < l.length := by omega
        have hcl := (SlR.grow (G := G) (G' := G1) (fun _ _ h => h) hl hg1).el hlt
        have htk := take_snoc (List.getElem?_eq_getElem hlt)
        have hki := hb0.i _ (List.getElem_mem hlt)
        generalize l[i] = kk at hcl htk hki
        obtain ⟨k, rfl⟩ : ∃ k : Nat, kk = k := ⟨kk.toNat, by omega⟩
        have hk : k < g.r.orders.length := by omega
        have hco := (SlR.grow (G := G) (G' := G1) (fun _ _ h => h) los hg1).el hk
        have hb := hb0.o _ (List.getElem_mem hk)
        have hst : byF g (l.take (i + 1)) = hideF q g.r.orders[k] := by
          rw [htk, byF, List.foldl_append, hqe]
          simp [byF, hk]
        generalize g.r.orders[k] = o at hco hb hst
        have hco : CellsAt G1 (ab x1) (ao x1 + k * 4) [I o.f, I o.t, I o.k, I o.u] := hco
        repeat' (first | (refine OblP.mk ?_ (W.mk ?_); (first | trivial | omega | (simp only [inR]; omega) | exact Nat.le_of_ble_eq_true (by rfl) | exact SlR.some (by assumption) (by omega)); (conv => whnf)) | (first | (refine RdP.at (by assumption) (by rfl) (W.mk ?_); (conv => whnf)) | (refine RdP.sub (by assumption) (by rfl) (W.mk ?_); (conv => whnf)) | (refine RdP.sub2 (by assumption) (by rfl) (W.mk ?_); (conv => whnf)) | (refine RdP.sub3 (by assumption) (by rfl) (W.mk ?_); (conv => whnf))))
        (conv => whnf)
        refine CallN.mk ⟨_, hide69n 95 b q o hb.1 hb.2.1 hb.2.2, body69, W.mk ?_⟩
        (conv => whnf)
        refine StP.mk ⟨[(1, ⟨b, true, .cells (([] : List Value) ++ vll q) 95⟩)], ⟨⟨_, rfl, rfl⟩, trivial⟩, (by show ([1] : List Nat).Nodup; decide), ⟨rfl, rfl⟩, fun v ns G3 hg3 hpost => W.mk ?_⟩
        obtain ⟨rfl, rfl⟩ := hpost
        (conv => whnf)
        (refine OblP.mk ?_ (W.mk ?_); (first | trivial | omega | (simp only [inR]; omega) | exact Nat.le_of_ble_eq_true (by rfl) | exact SlR.some (by assumption) (by omega)); (conv => whnf))
        refine RoundP.of (i + 1, some b, hideF q o) (HeadP.of [] ⟨rfl, rfl, rfl, rfl, rfl, trivial⟩ ⟨rfl, rfl, trivial⟩) ⟨hlt, hst.symm⟩ (by simp only; omega)
      · have hie : i = l.length := by omega
        subst hie
        rw [List.take_length] at hqe
        refine FinP.mk ?_
        rw [hqe]; rfl
end Go.Proofs.Ytpcpjmplgladmaa
