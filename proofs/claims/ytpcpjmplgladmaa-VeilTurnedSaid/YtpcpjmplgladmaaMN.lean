/- Layer 9: the pieces of a view and the words that are shown (plain). Layer 9: orders in another order of the list (plain), and rows that are cut and set. -/
import Derived.Test.YtpcpjmplgladmaaMK
import Derived.Test.YtpcpjmplgladmaaML
set_option linter.unusedSimpArgs false
set_option linter.unusedVariables false
namespace Go.Proofs.Ytpcpjmplgladmaa
open Go.Pal Go.RowKit
set_option maxRecDepth 100000
end Go.Proofs.Ytpcpjmplgladmaa

/- Layer 9: the law VeilAll. -/
  namespace Go.Proofs.Ytpcpjmplgladmaa
open Go.Pal Go.RowKit
set_option maxRecDepth 100000
set_option maxHeartbeats 1000000
end Go.Proofs.Ytpcpjmplgladmaa

namespace Go.Proofs.Ytpcpjmplgladmaa
open Go.Pal Go.RowKit
set_option maxRecDepth 100000
theorem any_perm {α : Type} {l l' : List α} (h : l.Perm l') (p : α → Bool) : l.any p = l'.any p := by
  rw [Bool.eq_iff_iff]
  simp only [List.any_eq_true, h.mem_iff]
def withO (r : Rp) (l : List Od) : Rp := ⟨r.words, l, r.cols⟩
section
variable {r : Rp} {l : List Od} (h : l.Perm r.orders) (x : Rx)
include h
theorem fault_perm : faultX (withO r l) x = faultX r x := by
  have hl := h.length_eq
  have : faultR (withO r l) = faultR r := by simp only [faultR, withO, hl, any_perm h]
  simp only [faultX, this]
theorem rgp_perm : (rgOf (withO r l) x).p = (rgOf r x).p := funext fun i => any_perm h _
end
theorem pcK_congr {g g' : Rg} (hp : g.p = g'.p) (hw : g.r.words = g'.r.words) (hc : g.r.cols = g'.r.cols) : ∀ i, pcK g i = pcK g' i
  | 0 => rfl
  | i + 1 => by simp only [pcK, pcK_congr hp hw hc i, hp, hw, hc]
theorem yrS_comm (x : Rx) (i : Nat) (y : Int) (a b : Od) : yrS x i (yrS x i y a) b = yrS x i (yrS x i y b) a := by
  simp only [yrS]
  split <;> split <;> omega
theorem yr_perm (x : Rx) (i : Nat) {l l' : List Od} (h : l.Perm l') : ∀ y, l.foldl (yrS x i) y = l'.foldl (yrS x i) y := by
  induction h with
  | nil => exact fun _ => rfl
  | cons a _ ih => exact fun y => ih _
  | swap a b l => exact fun y => by simp only [List.foldl_cons]; rw [yrS_comm]
  | trans _ _ ih1 ih2 => exact fun y => (ih1 y).trans (ih2 y)
section
variable {r : Rp} {l : List Od} (h : l.Perm r.orders) (x : Rx)
include h
theorem pcF_perm : pcF (rgOf (withO r l) x) = pcF (rgOf r x) := pcK_congr (rgp_perm h x) rfl rfl _
theorem look_perm : lookF (withO r l) x = lookF r x := by rw [lookF, pcF_perm h]; rfl
theorem cols_perm : colsF (rgOf (withO r l) x) = colsF (rgOf r x) := by
  have : stepC (rgOf (withO r l) x) = stepC (rgOf r x) := rfl
  rw [colsF, colsF, pcF_perm h, this]
theorem index_perm : indexF (withO r l) x = indexF r x := by rw [indexF, indexF, cols_perm h]
theorem clK_perm : ∀ i, clK (rgOf (withO r l) x) i = clK (rgOf r x) i
  | 0 => rfl
  | i + 1 => by
    have ih := clK_perm i
    have hp := rgp_perm h x
    have hI : clI (rgOf (withO r l) x) i = clI (rgOf r x) i := by funext L; simp only [clI, hp]
    show (if (rgOf (withO r l) x).p i then setL (clI (rgOf (withO r l) x) i (clK (rgOf (withO r l) x) i)) (i + 1) (l.foldl (yrS x i) (lastY (clI (rgOf (withO r l) x) i (clK (rgOf (withO r l) x) i)))) else clK (rgOf (withO r l) x) i) = (if (rgOf r x).p i then setL (clI (rgOf r x) i (clK (rgOf r x) i)) (i + 1) (r.orders.foldl (yrS x i) (lastY (clI (rgOf r x) i (clK (rgOf r x) i)))) else clK (rgOf r x) i)
    rw [hp, hI, ih, yr_perm x i h]
theorem cl_perm : clF (rgOf (withO r l) x) = clF (rgOf r x) := clK_perm h x _
end
/-! ### Rows that are cut, and set -/
theorem SlR.cut {α : Type} {k : Nat} {R : Hp → List Value → α → Prop} {G : Hp} {a : Option Addr} {n c : Nat} {l : List α} (h : SlR k R G a n c l) {b m : Nat} (hb : b ≤ m) (hm : m ≤ n) (hc : c ≠ b) (hn : n ≠ 0) : SlR k R G (cutA a b c k) (m - b) (c - b) ((l.take m).drop b) := by
  have h1 := h.some hn
  have hcap := h.cap
  have hlen := h.len
  generalize hB : ab a = B at h1
  generalize hO : ao a = O at h1
  have hX : cutA a b c k = some ⟨B, O + b * k, none⟩ := by
    rw [cutA, if_neg hc, h1]
    show some (Addr.add _ _) = _
    unfold Addr.add
    split
    · rename_i h0; rw [h0]; rfl
    · rfl
  rw [hX]
  refine ⟨by simp; omega, by omega, fun _ => rfl, fun i hi => ?_⟩
  have hi' : b + i < l.length := by simp at hi; omega
  obtain ⟨cs, k1, k2, k3⟩ := h.at_ (b + i) hi'
  refine ⟨cs, k1, ?_, by simpa using k3⟩
  rw [hB, hO] at k2
  show CellsAt G B (O + b * k + i * k) cs
  rw [show O + b * k + i * k = O + (b + i) * k by rw [Nat.add_mul]; omega]
  exact k2
theorem Row.set {α : Type} {e : El α} {l : List α} {n : Nat} {vs : List Value} (h : Row e l n vs) {i : Nat} (hi : i < l.length) (x : α) : Row e (l.set i x) n (vs.take (i * e.k) ++ e.f x ++ vs.drop (i * e.k + e.k)) := by
  obtain ⟨rfl, rfl⟩ := h
  refine ⟨by simp, ?_⟩
  induction l generalizing i with
  | nil => simp at hi
  | cons y t ih =>
    have hk := e.len y
    cases i with
    | zero =>
      simp only [List.map_cons, List.flatten_cons, List.set_cons_zero, Nat.zero_mul, List.take_zero, List.nil_append, Nat.zero_add]
      rw [← hk, List.drop_left]
    | succ i =>
      have hi2 : i < t.length := by simpa using hi
      simp only [List.map_cons, List.flatten_cons, List.set_cons_succ]
      rw [← ih hi2, show (i + 1) * e.k = (e.f y).length + i * e.k by rw [hk, Nat.succ_mul]; omega, List.take_append, List.drop_append, List.take_of_length_le (by omega), List.drop_of_length_le (by omega), Nat.add_sub_cancel_left, show (e.f y).length + i * e.k + e.k - (e.f y).length = i * e.k + e.k by omega]
      simp
/-- A list, turned. -/
def rotL (l : List Od) (b : Nat) : List Od := l.drop b ++ l.take b
theorem rotL_perm (l : List Od) (b : Nat) : (rotL l b).Perm l := by
  have := List.perm_append_comm (l₁ := l.drop b) (l₂ := l.take b)
  rwa [List.take_append_drop] at this
theorem rotL_len (l : List Od) (b : Nat) : (rotL l b).length = l.length := (rotL_perm l b).length_eq
theorem swap_perm {l : List Od} {a : Nat} (h0 : 0 < l.length) (ha : a < l.length) : ((l.set 0 l[a]).set a l[0]).Perm l := List.set_set_perm h0 ha
end Go.Proofs.Ytpcpjmplgladmaa

/- Layer 9: the law VeilTurned. -/
  namespace Go.Proofs.Ytpcpjmplgladmaa
open Go.Pal Go.RowKit
set_option maxRecDepth 100000
set_option maxHeartbeats 1000000
theorem law7 : Sound Try.prog 7 id (gsca (fun args G (p : Rp × Rx × Int × Int) => ∃ u v, args = [u, v, U p.2.2.1, U p.2.2.2] ∧ RuV G u p.1 ∧ XuV G v p.2.1 ∧ (0 ≤ p.2.2.1 ∧ p.2.2.1 ≤ 255) ∧ 0 ≤ p.2.2.2 ∧ p.2.2.2 ≤ 255) fun _ v => v = .bool true) := by
  refine comp7.gsca tabLw (fun args G s h => ?_) (fun args G p h => ?_)
  · obtain ⟨u, v, rfl, _⟩ := h; simp
  · obtain ⟨r, x, wh, ys⟩ := p
    obtain ⟨u, v, rfl, hr, hx, ⟨hw0, hw1⟩, hy0, hy1⟩ := h
    dsimp only at hr hx hw0 hw1 hy0 hy1
    obtain ⟨rw_, ro, rfl, ⟨wa, wn, wc, rfl, hwu1, hwu2⟩, ⟨oa, on, oc, rfl, hou1, hou2⟩⟩ := id hr
    obtain ⟨m, rfl, ⟨ma, mn, mc, rfl, hmu1, hmu2⟩⟩ := id hx
    try dsimp only
    (conv => whnf)
    refine ScaP.g (ok2 ruRd xuRd fun _ _ => True) (x := (r, x)) ⟨_, _, rfl, hr, hx, trivial⟩ (fun v hv => W.mk ?_)
    subst hv
    dsimp only
    (conv => whnf)
    refine ForkP.mk (fun hfw => W.mk ?_) (fun hfw => W.mk ?_) <;> (conv => whnf)
    rotate_left
    · refine ScaP.g okU (x := ()) rfl (fun v hv => W.mk ?_)
      subst hv
      (conv => whnf)
      refine ForkP.mk (fun _ => W.mk ?_) (fun h => by cases h)
      (conv => whnf)
      exact FinP.mk rfl
    rw [Bool.and_eq_true, decide_eq_true_eq] at hfw
    obtain ⟨hfw, h0⟩ := hfw
    have hf := few_of hfw
    have hrv := hr.v hf
    have hxv := hx.v hf
    obtain ⟨hfine, hrx⟩ := faultX_fine h0
    have hon := hou1.len
    have hol := hfine.ol
    refine IteP.mk (fun hz => W.mk ?_) (fun hz => W.mk ?_) <;> (conv => whnf)
    · refine ScaP.g okU (x := ()) rfl (fun v hv => W.mk ?_)
      subst hv
      (conv => whnf)
      refine ForkP.mk (fun _ => W.mk ?_) (fun h => by cases h)
      (conv => whnf)
      exact FinP.mk rfl
    have hz : 0 < on := by have hz : ¬ (on : Int) = 0 := hz; omega
    refine RelP.g (ok1 rpRd Repo) (x := r) ⟨_, rfl, hrv, hf.repo⟩ (Grow.refl _) (fun v G1 h1 q1 => W.mk ?_)
    obtain ⟨w1, o1, rfl, hrc1⟩ := id q1
    obtain ⟨a1, n1, c1, rfl, ho1, hn1⟩ := id hrc1.o
    obtain ⟨wa1, wn1, wc1, rfl, _, _⟩ := id hrc1.w
    have hn1l := ho1.len
    have hnn : n1 = on := by omega
    subst hnn
    have hcap := ho1.cap
    have hne : n1 ≠ 0 := by omega
    have hrv := rpRd.grow h1 hrv
    have hxv := rxRd.grow h1 hxv
    (conv => whnf)
    have hb0 := Int.emod_nonneg wh (show (n1 : Int) ≠ 0 by omega)
    have hb1 := Int.emod_lt_of_pos wh (show 0 < (n1 : Int) by omega)
    obtain ⟨b, hb⟩ : ∃ k : Nat, (k : Int) = wh % (n1 : Int) := ⟨(wh % (n1 : Int)).toNat, by omega⟩
    have hd0 := Int.emod_nonneg ys (show (n1 : Int) ≠ 0 by omega)
    have hd1 := Int.emod_lt_of_pos ys (show 0 < (n1 : Int) by omega)
    obtain ⟨d, hd⟩ : ∃ k : Nat, (k : Int) = ys % (n1 : Int) := ⟨(ys % (n1 : Int)).toNat, by omega⟩
    refine DrawP.mk monoT_nil rfl (W.mk ?_)
    (conv => whnf)
    refine OblP.mk (by simp only [inR]; omega) (W.mk ?_)
    (conv => whnf)
    refine OblP.mk ⟨by omega, by omega⟩ (W.mk ?_)
    (conv => whnf)
    rw [← hb]
    refine OblP.mk ⟨by omega, by omega, by omega, by omega⟩ (W.mk ?_)
    (conv => whnf)
    have hs1 : SlR odE.k odE.R G1 (cutA a1 b c1 4) (n1 - b) (c1 - b) ((r.orders.take n1).drop b) := SlR.cut ho1 (by omega) (Nat.le_refl _) (by omega) hne
    have hs2 : SlR odE.k odE.R G1 (cutA a1 0 c1 4) (b - 0) (c1 - 0) ((r.orders.take b).drop 0) := SlR.cut ho1 (Nat.zero_le _) (by omega) (by omega) hne
    obtain ⟨e1, e2, e3⟩ := hs1.all
    obtain ⟨e4, e5, e6⟩ := hs2.all
    refine OblP.mk hs1.some (W.mk ?_); (conv => whnf)
    refine RdP.at e1 e2 (W.mk ?_); (conv => whnf)
    refine OblP.mk e3 (W.mk ?_); (conv => whnf)
    refine OblP.mk rfl (W.mk ?_); (conv => whnf)
    refine OblP.mk (by show (0 + (n1 - b)) * 32 ≤ _; omega) (W.mk ?_); (conv => whnf)
    refine OblP.mk (by simp only [inR]; omega) (W.mk ?_)
    (conv => whnf)
    refine OblP.mk ⟨by omega, by omega⟩ (W.mk ?_)
    (conv => whnf)
    rw [← hb]
    refine OblP.mk ⟨by omega, by omega, by omega, by omega⟩ (W.mk ?_)
    (conv => whnf)
    refine OblP.mk hs2.some (W.mk ?_); (conv => whnf)
    refine RdP.at e4 e5 (W.mk ?_); (conv => whnf)
    refine OblP.mk e6 (W.mk ?_); (conv => whnf)
    refine OblP.mk rfl (W.mk ?_); (conv => whnf)
    refine OblP.mk (by show (0 + (n1 - b) + (b - 0)) * 32 ≤ _; omega) (W.mk ?_); (conv => whnf)
    have hrot : (r.orders.take n1).drop b ++ (r.orders.take b).drop 0 = rotL r.orders b := by rw [← hn1l, List.take_length]; rfl
    have hrl := rotL_len r.orders b
    have hrow : Row odE (rotL r.orders b) (0 + (n1 - b) + (b - 0)) ([] ++ (((r.orders.take n1).drop b).map odE.f).flatten ++ (((r.orders.take b).drop 0).map odE.f).flatten) := by
      refine ⟨by omega, ?_⟩
      rw [← hrot, List.map_append, List.flatten_append, List.nil_append]
    have h0l : 0 < (rotL r.orders b).length := by omega
    have hdl : d < (rotL r.orders b).length := by omega
    generalize hV : ([] ++ (((r.orders.take n1).drop b).map odE.f).flatten ++ (((r.orders.take b).drop 0).map odE.f).flatten : List Value) = V at hrow
    refine DrawP.mk monoT_nil rfl (W.mk ?_)
    (conv => whnf)
    refine OblP.mk (by simp only [inR]; omega) (W.mk ?_)
    (conv => whnf)
    refine OblP.mk ⟨by omega, by omega⟩ (W.mk ?_)
    (conv => whnf)
    rw [← hd]
    refine OblP.mk (by simp only [inR]; omega) (W.mk ?_)
    (conv => whnf)
    refine OblP.mk ⟨by omega, by omega⟩ (W.mk ?_)
    (conv => whnf)
    rw [← hd]
    refine OblP.mk ⟨by omega, by omega⟩ (W.mk ?_)
    (conv => whnf)
    refine OblP.mk rfl (W.mk ?_)
    (conv => whnf)
    refine EqP.mk ⟨_, hrow.at hdl, rfl, W.mk ?_⟩
    (conv => whnf)
    refine OblP.mk ⟨by omega, by omega⟩ (W.mk ?_)
    (conv => whnf)
    refine OblP.mk rfl (W.mk ?_)
    (conv => whnf)
    refine EqP.mk ⟨_, hrow.at h0l, rfl, W.mk ?_⟩
    (conv => whnf)
    refine OblP.mk ⟨by omega, by omega⟩ (W.mk ?_)
    (conv => whnf)
    refine OblP.mk rfl (W.mk ?_)
    (conv => whnf)
    have hrow2 := Row.set hrow h0l (rotL r.orders b)[d]
    have hrow3 := Row.set hrow2 (i := d) (by simpa using hdl) (rotL r.orders b)[0]
    have hVl := hrow.len
    have hVl2 := hrow2.len
    have hper := (swap_perm h0l hdl).trans (rotL_perm r.orders b)
    generalize hV2 : (V.take (0 * odE.k) ++ odE.f (rotL r.orders b)[d] ++ V.drop (0 * odE.k + odE.k)) = V2 at hrow2 hrow3 hVl2
    generalize hV3 : (V2.take (d * odE.k) ++ odE.f (rotL r.orders b)[0] ++ V2.drop (d * odE.k + odE.k)) = V3 at hrow3
    generalize hL2 : (((rotL r.orders b).set 0 (rotL r.orders b)[d]).set d (rotL r.orders b)[0]) = L2 at hrow3 hper
    refine OblP.mk (by rw [hVl]; show 0 + 0 * 4 + 4 ≤ _ * 4; omega) (W.mk ?_)
    refine den_setR_eq hV2 ?_
    (conv => whnf)
    refine OblP.mk ⟨by omega, by omega⟩ (W.mk ?_)
    (conv => whnf)
    refine OblP.mk rfl (W.mk ?_)
    (conv => whnf)
    refine OblP.mk (by rw [hVl2]; show d * 4 + 4 ≤ (0 + (n1 - b) + (b - 0)) * 4; omega) (W.mk ?_)
    refine den_setR_eq hV3 ?_
    (conv => whnf)
    have h02 : faultX (withO r L2) x = 0 := by rw [fault_perm hper]; exact h0
    refine RelP.g (ok1 rpRd Repo) (x := r) ⟨_, rfl, hrv, hf.repo⟩ (Grow.refl _) (fun v G2 h2 q2 => W.mk ?_)
    obtain ⟨_, _, rfl, _⟩ := id q2
    have hrv := rpRd.grow h2 hrv
    have hxv := rxRd.grow h2 hxv
    (conv => whnf)
    refine RelP.g (ok1 rxRd fun x => x.may.length ≤ 1000) (x := x) ⟨_, rfl, hxv, by have := hf.ml; omega⟩ (Grow.refl _) (fun v G3 h3 q3 => W.mk ?_)
    obtain ⟨_, rfl, _⟩ := id q3
    have hrv := rpRd.grow h3 hrv
    have hxv := rxRd.grow h3 hxv
    (conv => whnf)
    refine RelP.g (ok2 rpRd rxRd fun _ _ => True) (x := (r, x)) ⟨_, _, rfl, (rpRd.grow h3 q2), q3, trivial⟩ (Grow.refl _) (fun v G4 h4 q4 => W.mk ?_)
    obtain ⟨_, rfl, q4⟩ := q4
    dsimp only at q4 ⊢
    rw [if_pos h0] at q4
    obtain ⟨a4, n4, c4, rfl, hl4, _⟩ := id q4
    have hrv := rpRd.grow h4 hrv
    have hxv := rxRd.grow h4 hxv
    (conv => whnf)
    refine PubP.mk (fun a5 c5 G5 h5 p5 => W.mk ?_)
    have hs5 : SlV odE G5 (.slice a5 _ c5) L2 := hrow3.pub p5 (by omega)
    have hw5 : WdsV G5 (.slice wa1 wn1 wc1) r.words := ((((hrc1.w.grow h2).grow h3).grow h4).grow h5)
    have hy5 : RpV G5 (.agg #[.slice wa1 wn1 wc1, .slice a5 (0 + (n1 - b) + (b - 0)) c5, I r.cols]) (withO r L2) := ⟨_, _, rfl, hw5, hs5⟩
    have hrv := rpRd.grow h5 hrv
    have hxv := rxRd.grow h5 hxv
    (conv => whnf)
    refine RelP.g (ok1 rxRd fun x => x.may.length ≤ 1000) (x := x) ⟨_, rfl, hxv, by have := hf.ml; omega⟩ (Grow.refl _) (fun v G6 h6 q6 => W.mk ?_)
    obtain ⟨_, rfl, _⟩ := id q6
    have hrv := rpRd.grow h6 hrv
    have hxv := rxRd.grow h6 hxv
    (conv => whnf)
    refine RelP.g (ok2 rpRd rxRd fun _ _ => True) (x := ((withO r L2), x)) ⟨_, _, rfl, (rpRd.grow h6 hy5), q6, trivial⟩ (Grow.refl _) (fun v G7 h7 q7 => W.mk ?_)
    obtain ⟨_, rfl, q7⟩ := q7
    dsimp only at q7 ⊢
    rw [if_pos h02] at q7
    obtain ⟨a7, n7, c7, rfl, hl7, _⟩ := id q7
    have hrv := rpRd.grow h7 hrv
    have hxv := rxRd.grow h7 hxv
    (conv => whnf)
    refine RelP.g (ok1 rpRd Repo) (x := r) ⟨_, rfl, hrv, hf.repo⟩ (Grow.refl _) (fun v G8 h8 q8 => W.mk ?_)
    obtain ⟨_, _, rfl, _⟩ := id q8
    have hrv := rpRd.grow h8 hrv
    have hxv := rxRd.grow h8 hxv
    (conv => whnf)
    refine RelP.g (ok1 rxRd fun x => x.may.length ≤ 1000) (x := x) ⟨_, rfl, hxv, by have := hf.ml; omega⟩ (Grow.refl _) (fun v G9 h9 q9 => W.mk ?_)
    obtain ⟨_, rfl, _⟩ := id q9
    have hrv := rpRd.grow h9 hrv
    have hxv := rxRd.grow h9 hxv
    (conv => whnf)
    refine RelP.g (ok2 rpRd rxRd fun _ _ => True) (x := (r, x)) ⟨_, _, rfl, (rpRd.grow h9 q8), q9, trivial⟩ (Grow.refl _) (fun v Ga ha qa => W.mk ?_)
    obtain ⟨_, rfl, qa⟩ := qa
    dsimp only at qa ⊢
    rw [if_pos h0] at qa
    obtain ⟨aa, na, ca, rfl, hla, _⟩ := id qa
    have hrv := rpRd.grow ha hrv
    have hxv := rxRd.grow ha hxv
    (conv => whnf)
    refine RelP.g (ok1 rxRd fun x => x.may.length ≤ 1000) (x := x) ⟨_, rfl, hxv, by have := hf.ml; omega⟩ (Grow.refl _) (fun v Gb hgb qb => W.mk ?_)
    obtain ⟨_, rfl, _⟩ := id qb
    have hrv := rpRd.grow hgb hrv
    have hxv := rxRd.grow hgb hxv
    (conv => whnf)
    have h6b := ((((h6.trans h7).trans h8).trans h9).trans ha).trans hgb
    refine RelP.g (ok2 rpRd rxRd fun _ _ => True) (x := ((withO r L2), x)) ⟨_, _, rfl, (rpRd.grow h6b hy5), qb, trivial⟩ (Grow.refl _) (fun v Gc hgc qc => W.mk ?_)
    obtain ⟨_, rfl, qc⟩ := qc
    dsimp only at qc ⊢
    rw [if_pos h02] at qc
    obtain ⟨ac, nc, cc, rfl, hlc, _⟩ := id qc
    have hrv := rpRd.grow hgc hrv
    have hxv := rxRd.grow hgc hxv
    (conv => whnf)
    refine RelP.g (ok1 rpRd Repo) (x := r) ⟨_, rfl, hrv, hf.repo⟩ (Grow.refl _) (fun v Gd hgd qd => W.mk ?_)
    obtain ⟨_, _, rfl, _⟩ := id qd
    have hrv := rpRd.grow hgd hrv
    have hxv := rxRd.grow hgd hxv
    (conv => whnf)
    refine RelP.g (ok1 rxRd fun x => x.may.length ≤ 1000) (x := x) ⟨_, rfl, hxv, by have := hf.ml; omega⟩ (Grow.refl _) (fun v Ge hge qe => W.mk ?_)
    obtain ⟨_, rfl, _⟩ := id qe
    have hrv := rpRd.grow hge hrv
    have hxv := rxRd.grow hge hxv
    (conv => whnf)
    refine RelP.g (ok2 rpRd rxRd fun _ _ => True) (x := (r, x)) ⟨_, _, rfl, (rpRd.grow hge qd), qe, trivial⟩ (Grow.refl _) (fun v Gf hgf qf => W.mk ?_)
    obtain ⟨_, rfl, qf⟩ := qf
    dsimp only at qf ⊢
    rw [if_pos h0] at qf
    obtain ⟨af, nf, cf, rfl, hlf, _⟩ := id qf
    have hrv := rpRd.grow hgf hrv
    have hxv := rxRd.grow hgf hxv
    (conv => whnf)
    refine RelP.g (ok1 rxRd fun x => x.may.length ≤ 1000) (x := x) ⟨_, rfl, hxv, by have := hf.ml; omega⟩ (Grow.refl _) (fun v Gg hgg qg => W.mk ?_)
    obtain ⟨_, rfl, _⟩ := id qg
    have hrv := rpRd.grow hgg hrv
    have hxv := rxRd.grow hgg hxv
    (conv => whnf)
    have h6g := (((h6b.trans hgc).trans hgd).trans hge).trans hgf |>.trans hgg
    refine RelP.g (ok2 rpRd rxRd fun _ _ => True) (x := ((withO r L2), x)) ⟨_, _, rfl, (rpRd.grow h6g hy5), qg, trivial⟩ (Grow.refl _) (fun v Gh hgh qh => W.mk ?_)
    obtain ⟨_, rfl, qh⟩ := qh
    dsimp only at qh ⊢
    rw [if_pos h02] at qh
    obtain ⟨ah, nh, ch, rfl, hlh, _⟩ := id qh
    have hrv := rpRd.grow hgh hrv
    have hxv := rxRd.grow hgh hxv
    (conv => whnf)
    have g7 := (((h8.trans h9).trans ha).trans hgb).trans hgc |>.trans hgd |>.trans hge |>.trans hgf |>.trans hgg |>.trans hgh
    have g4 := ((h5.trans h6).trans h7).trans g7
    have gc := (hgd.trans hge).trans hgf |>.trans hgg |>.trans hgh
    have ga := (hgb.trans hgc).trans gc
    have gf := hgg.trans hgh
    refine IteP.mk (fun _ => W.mk ?_) (fun h => absurd h0 h)
    (conv => whnf)
    refine IteP.mk (fun _ => W.mk ?_) (fun h => absurd h02 h)
    (conv => whnf)
    refine IteP.mk (fun _ => W.mk ?_) (fun h => absurd h0 h)
    (conv => whnf)
    refine IteP.mk (fun _ => W.mk ?_) (fun h => absurd h02 h)
    (conv => whnf)
    refine IteP.mk (fun _ => W.mk ?_) (fun h => absurd h0 h)
    (conv => whnf)
    refine IteP.mk (fun _ => W.mk ?_) (fun h => absurd h02 h)
    (conv => whnf)
    refine ScaP.g (ok2 (slRd pcE) (slRd pcE) fun _ _ => True) (x := (lookF r x, lookF (withO r L2) x)) ⟨_, _, rfl, q4.grow g4, q7.grow g7, trivial⟩ (fun v hv => W.mk ?_)
    dsimp only at hv
    rw [look_perm hper, decide_eq_true rfl] at hv
    subst hv
    (conv => whnf)
    refine ForkP.mk (fun _ => W.mk ?_) (fun h => by cases h)
    (conv => whnf)
    refine ScaP.g (ok2 ensRd ensRd fun _ _ => True) (x := (indexF r x, indexF (withO r L2) x)) ⟨_, _, rfl, qa.grow ga, qc.grow gc, trivial⟩ (fun v hv => W.mk ?_)
    dsimp only at hv
    rw [index_perm hper, decide_eq_true rfl] at hv
    subst hv
    (conv => whnf)
    refine ForkP.mk (fun _ => W.mk ?_) (fun h => by cases h)
    (conv => whnf)
    have hlf := SlR.grow (G := Gf) (G' := Gh) (fun _ _ h => h) hlf gf
    rw [cl_perm hper] at hlh
    have hnf := hlf.len
    have hnh := hlh.len
    have hnn : nf = nh := by omega
    subst hnn
    refine IteP.mk (fun _ => W.mk ?_) (fun h => absurd rfl h)
    (conv => whnf)
    refine LoopP.of { α := Nat, fr := fun y => [(19, .v (.slice af nf cf)), (21, .v (.slice ah nf ch)), (23, .v (I y))], H := fun _ => [], ok := fun y _ => y ≤ nf, m := fun y => nf - y }
      0 (HeadP.of [] ⟨rfl, rfl, rfl, trivial⟩ trivial) (Nat.zero_le _) (fun _ => ⟨rfl, rfl⟩) (fun (i : Nat) Gi hgi hx2 => W.mk ?_)
    have hi : i ≤ nf := hx2
    dsimp only
    (conv => whnf)
    refine IteP.mk (fun hlt => W.mk ?_) (fun hge => W.mk ?_) <;> (conv => whnf)
    · have hlt : i < (clF (rgOf r x)).length := by omega
      have hc := (SlR.grow (G := Gh) (G' := Gi) (fun _ _ h => h) hlf hgi).el hlt
      have hc' := (SlR.grow (G := Gh) (G' := Gi) (fun _ _ h => h) hlh hgi).el hlt
      generalize (clF (rgOf r x))[i] = e at hc hc'
      obtain ⟨f, t, y⟩ := e
      repeat' (first | (refine OblP.mk ?_ (W.mk ?_); (first | trivial | omega | (simp only [inR]; omega) | exact Nat.le_of_ble_eq_true (by rfl) | exact SlR.some (by assumption) (by omega)); (conv => whnf)) | (first | (refine RdP.at (by assumption) (by rfl) (W.mk ?_); (conv => whnf)) | (refine RdP.sub (by assumption) (by rfl) (W.mk ?_); (conv => whnf)) | (refine RdP.sub2 (by assumption) (by rfl) (W.mk ?_); (conv => whnf)) | (refine RdP.sub3 (by assumption) (by rfl) (W.mk ?_); (conv => whnf))))
      refine PurP.of _ (ne55 f t y f t y) (W.mk ?_)
      (conv => whnf)
      refine ForkP.mk (fun h => by simp at h) (fun _ => W.mk ?_)
      (conv => whnf)
      repeat' (first | (refine OblP.mk ?_ (W.mk ?_); (first | trivial | omega | (simp only [inR]; omega) | exact Nat.le_of_ble_eq_true (by rfl) | exact SlR.some (by assumption) (by omega)); (conv => whnf)) | (first | (refine RdP.at (by assumption) (by rfl) (W.mk ?_); (conv => whnf)) | (refine RdP.sub (by assumption) (by rfl) (W.mk ?_); (conv => whnf)) | (refine RdP.sub2 (by assumption) (by rfl) (W.mk ?_); (conv => whnf)) | (refine RdP.sub3 (by assumption) (by rfl) (W.mk ?_); (conv => whnf))))
      exact RoundP.of (i + 1) (HeadP.of [] ⟨rfl, rfl, rfl, trivial⟩ trivial) (by show i + 1 ≤ nf; omega) (by simp only; omega)
    · refine ScaP.g okU (x := ()) rfl (fun v hv => W.mk ?_)
      subst hv
      (conv => whnf)
      first | exact FinP.mk rfl | (refine ForkP.mk (fun _ => W.mk ?_) (fun h => by cases h); (conv => whnf); exact FinP.mk rfl)
end Go.Proofs.Ytpcpjmplgladmaa
