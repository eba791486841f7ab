/- Layer 9: what is shut: runs of hidden words (plain). Layer 9: how many words are shut; ranges within others (the statements' own functions). -/
import Derived.Test.YtpcpjmplgladmaaMK
set_option linter.unusedSimpArgs false
set_option linter.unusedVariables false
/- Layer 9: the law VeilLooks. -/
 namespace Go.Proofs.Ytpcpjmplgladmaa
open Go.Pal Go.RowKit
set_option maxRecDepth 100000
def tabLw : Tab Try.prog := Tab.cons 13 _ few13 body13 (Tab.cons 14 _ wakes14 body14 (Tab.cons 16 _ report16 body16 (Tab.cons 17 _ reader17 body17 (Tab.cons 18 _ faultL18 body18 (Tab.cons 28 _ look28 body28 (Tab.cons 30 _ check30 body30 (Tab.cons 31 _ find31 body31 (Tab.cons 32 _ fault32 body32 (Tab.cons 33 _ shown33 body33 (Tab.cons 34 _ look34 body34 (Tab.cons 29 _ pieces29 body29 (Tab.cons 15 _ index15 body15 (Tab.cons 21 _ closed21 body21 (Tab.cons 23 _ ready23 body23 (Tab.cons 35 _ hidden35 body35 (Tab.cons 24 _ has24 body24 (Tab.cons 20 _ entries20 body20 (Tab.cons 37 _ fewest37 body37 (Tab.cons 38 _ ints38 body38 (Tab.cons 27 _ list27 body27 (Tab.cons 41 _ holds41 body41 (Tab.nil _))))))))))))))))))))))
theorem law8 : Sound Try.prog 8 id (gsca (args3 ruRd xuRd intRd fun _ _ _ => True) fun _ v => v = .bool true) := by
  refine comp8.gsca tabLw (fun args G s h => ?_) (fun args G p h => ?_)
  · obtain ⟨u, v, w, rfl, _⟩ := h; simp
  · obtain ⟨r, x, pc⟩ := p
    obtain ⟨u, v, w, rfl, hr, hx, rfl, _⟩ := h
    dsimp only at hr hx
    obtain ⟨rw_, ro, rfl, ⟨wa, wn, wc, rfl, hwu1, hwu2⟩, ⟨oa, on, oc, rfl, hou1, hou2⟩⟩ := id hr
    obtain ⟨m, rfl, ⟨ma, mn, mc, rfl, hmu1, hmu2⟩⟩ := id hx
    try dsimp only
    (conv => whnf)
    refine ScaP.g (ok2 ruRd xuRd fun _ _ => True) (x := (r, x)) ⟨_, _, rfl, hr, hx, trivial⟩ (fun v hv => W.mk ?_)
    subst hv
    try dsimp only
    (conv => whnf)
    refine ForkP.mk (fun hfw => W.mk ?_) (fun hfw => W.mk ?_) <;> (conv => whnf)
    rotate_left
    · refine ScaP.g okU (x := ()) rfl (fun v hv => W.mk ?_)
      subst hv
      (conv => whnf)
      refine ForkP.mk (fun _ => W.mk ?_) (fun h => by cases h)
      (conv => whnf)
      exact FinP.mk rfl
    have hf := few_of hfw
    have hrv := hr.v hf
    have hxv := hx.v hf
    have htx : ∀ w ∈ r.words, w.text.size ≤ 1000 := fun w hw => by have := (hf.w w hw).1; omega
    refine RelP.g (ok1 rpRd Repo) (x := r) ⟨_, rfl, hrv, hf.repo⟩ (Grow.refl _) (fun v G1 h1 q1 => W.mk ?_)
    obtain ⟨_, _, rfl, _⟩ := id q1
    have hrv := rpRd.grow h1 hrv
    have hxv := rxRd.grow h1 hxv
    (conv => whnf)
    refine ScaP.g (ok1 rpRd fun _ => True) (x := r) ⟨_, rfl, q1, trivial⟩ (fun v hv => W.mk ?_)
    subst hv
    (conv => whnf)
    refine RelP.g (ok1 rpRd Repo) (x := r) ⟨_, rfl, hrv, hf.repo⟩ (Grow.refl _) (fun v G2 h2 q2 => W.mk ?_)
    obtain ⟨_, _, rfl, _⟩ := id q2
    have hrv := rpRd.grow h2 hrv
    have hxv := rxRd.grow h2 hxv
    (conv => whnf)
    refine RelP.g (ok1 rxRd fun x => x.may.length ≤ 1000) (x := x) ⟨_, rfl, hxv, by have := hf.ml; omega⟩ (Grow.refl _) (fun v G3 h3 q3 => W.mk ?_)
    obtain ⟨_, rfl, _⟩ := id q3
    have hrv := rpRd.grow h3 hrv
    have hxv := rxRd.grow h3 hxv
    (conv => whnf)
    refine RelP.g (ok2 rpRd rxRd fun _ _ => True) (x := (r, x)) ⟨_, _, rfl, rpRd.grow h3 q2, q3, trivial⟩ (Grow.refl _) (fun v G4 h4 q4 => W.mk ?_)
    obtain ⟨wl, rfl, hL⟩ := q4
    dsimp only at hL ⊢
    have hL0 : ∃ a n c, wl = .slice a n c ∧ (faultX r x ≠ 0 → n = 0) := by
      obtain ⟨a, n, c, e, k1, _⟩ := id hL
      refine ⟨a, n, c, e, fun h => ?_⟩
      have := k1.len
      rw [if_neg h] at this
      exact this.symm
    obtain ⟨la, ln, lc, rfl, hln0⟩ := hL0
    have hrv := rpRd.grow h4 hrv
    have hxv := rxRd.grow h4 hxv
    (conv => whnf)
    refine RelP.g (ok1 rpRd Repo) (x := r) ⟨_, rfl, hrv, hf.repo⟩ (Grow.refl _) (fun v G5 h5 q5 => W.mk ?_)
    obtain ⟨_, _, rfl, _⟩ := id q5
    have hrv := rpRd.grow h5 hrv
    have hxv := rxRd.grow h5 hxv
    (conv => whnf)
    refine RelP.g (ok1 rxRd fun x => x.may.length ≤ 1000) (x := x) ⟨_, rfl, hxv, by have := hf.ml; omega⟩ (Grow.refl _) (fun v G6 h6 q6 => W.mk ?_)
    obtain ⟨_, rfl, _⟩ := id q6
    have hrv := rpRd.grow h6 hrv
    have hxv := rxRd.grow h6 hxv
    (conv => whnf)
    refine RelP.g (ok3 rpRd rxRd intRd fun _ _ _ => True) (x := (r, x, pc)) ⟨_, _, _, rfl, rpRd.grow h6 q5, q6, rfl, trivial⟩ (Grow.refl _) (fun v G7 h7 q7 => W.mk ?_)
    subst q7
    dsimp only
    have hrv := rpRd.grow h7 hrv
    have hxv := rxRd.grow h7 hxv
    (conv => whnf)
    refine ScaP.g (ok1 rpRd _) (x := r) ⟨_, rfl, hrv, htx⟩ (fun v hv => W.mk ?_)
    subst hv
    (conv => whnf)
    refine IteP.mk (fun _ => W.mk ?_) (fun h => absurd rfl h)
    (conv => whnf)
    refine ScaP.g (ok2 rpRd rxRd _) (x := (r, x)) ⟨_, _, rfl, hrv, hxv, htx⟩ (fun v hv => W.mk ?_)
    subst hv
    dsimp only
    (conv => whnf)
    have hL := (hL.grow h5).grow h6 |>.grow h7
    refine IteP.mk (fun h0 => W.mk ?_) (fun h0 => W.mk ?_) <;> (conv => whnf)
    rotate_left
    · have h0 : ¬ faultX r x = 0 := h0
      have hF : findF r x pc = (0, faultX r x) := if_neg h0
      rw [hF]
      obtain rfl := hln0 h0
      refine IteP.mk (fun _ => W.mk ?_) (fun h => absurd rfl h)
      (conv => whnf)
      refine IteP.mk (fun _ => W.mk ?_) (fun h => absurd rfl h)
      (conv => whnf)
      refine IteP.mk (fun _ => W.mk ?_) (fun h => absurd rfl h)
      (conv => whnf)
      refine IteP.mk (fun _ => W.mk ?_) (fun h => absurd rfl h)
      (conv => whnf)
      refine ScaP.g okU (x := ()) rfl (fun v hv => W.mk ?_)
      subst hv
      (conv => whnf)
      first | exact FinP.mk rfl | (refine ForkP.mk (fun _ => W.mk ?_) (fun h => by cases h); (conv => whnf); exact FinP.mk rfl)
    have h0 : faultX r x = 0 := h0
    obtain ⟨hfine, hrx⟩ := faultX_fine h0
    rw [if_pos h0] at hL
    have hF : findF r x pc = if 0 ≤ pc ∧ pc < (pcF (rgOf r x)).length ∧ ((pcF (rgOf r x)).map (·.1)).getD pc.toNat (-1) ≠ -1 then (((pcF (rgOf r x)).map (·.1)).getD pc.toNat (-1), 0) else (0, 7) := if_pos h0
    refine RelP.g (ok2 rpRd rxRd fun r _ => RpOk r) (x := (r, x)) ⟨_, _, rfl, hrv, hxv, fine_ok hfine⟩ (Grow.refl _) (fun v G8 h8 q8 => W.mk ?_)
    dsimp only at q8
    rw [← pcF_sh] at q8
    obtain ⟨sa, sn, sc, rfl, hs1, hs2⟩ := q8
    have hsn := hs1.len
    rw [List.length_map] at hsn
    have hrv := rpRd.grow h8 hrv
    have hxv := rxRd.grow h8 hxv
    have hL := hL.grow h8
    have hpl : (pcF (rgOf r x)).length ≤ r.words.length := pcF_len (rgOf r x)
    have hwl := hfine.wl
    (conv => whnf)
    refine IteP.mk (fun k1 => W.mk ?_) (fun k1 => W.mk ?_) <;> (conv => whnf)
    · have k1 : pc < 0 := k1
      have hF : findF r x pc = (0, 7) := by rw [hF, if_neg (fun h => by omega)]
      rw [hF]
      refine IteP.mk (fun _ => W.mk ?_) (fun h => absurd rfl h)
      (conv => whnf)
      refine IteP.mk (fun _ => W.mk ?_) (fun h => absurd rfl h)
      (conv => whnf)
      refine RelP.g (ok2 rpRd rxRd fun r _ => Fine r) (x := (r, x)) ⟨_, _, rfl, hrv, hxv, hfine⟩ (Grow.refl _) (fun v G9 h9 q9 => W.mk ?_)
      dsimp only at q9
      obtain ⟨va, vn, vc, rfl, hv1, hv2⟩ := q9
      have hvn := hv1.len
      have hll : (lookF r x).length = (pcF (rgOf r x)).length := by rw [lookF, List.length_map]
      have hL := hL.grow h9
      (conv => whnf)
      refine LoopP.of { α := Nat × List Value, fr := fun y => [(8, .v (.slice la ln lc)), (9, .v (I (faultX r x))), (14, .c (.row 3 y.1)), (15, .v (.slice va vn vc)), (16, .v (I y.1))], H := fun y => [(3, .row none y.1 y.2 79 2)], ok := fun y _ => y.1 ≤ vn ∧ Row pcE ((lookF r x).take y.1) y.1 y.2, m := fun y => vn - y.1 }
        (0, []) (HeadP.of [(3, none)] ⟨rfl, rfl, rfl, rfl, rfl, trivial⟩ ⟨rfl, trivial⟩) ⟨Nat.zero_le _, Row.nil⟩ (fun _ => ⟨rfl, rfl⟩) (fun y Ga ha hx2 => W.mk ?_)
      obtain ⟨i, vs⟩ := y
      obtain ⟨hi, hrow⟩ := hx2
      dsimp only at hi hrow
      have hL := hL.grow ha
      dsimp only
      (conv => whnf)
      refine IteP.mk (fun hlt => W.mk ?_) (fun hge => W.mk ?_) <;> (conv => whnf)
      · have hlt : i < (lookF r x).length := by omega
        have hc := (SlR.grow (G := G9) (G' := Ga) (fun _ _ h => h) hv1 ha).el hlt
        have htk := take_snoc (List.getElem?_eq_getElem hlt)
        generalize (lookF r x)[i] = e at hc htk
        obtain ⟨tx, cl⟩ := e
        repeat' (first | (refine OblP.mk rfl (W.mk ?_); (conv => whnf)) | (refine OblP.mk ?_ (W.mk ?_); (first | trivial | omega | (simp only [inR]; omega) | exact Nat.le_of_ble_eq_true (by rfl) | exact SlR.some (by assumption) (by omega)); (conv => whnf)) | (first | (refine RdP.at (by assumption) (by rfl) (W.mk ?_); (conv => whnf)) | (refine RdP.sub (by assumption) (by rfl) (W.mk ?_); (conv => whnf)) | (refine RdP.sub2 (by assumption) (by rfl) (W.mk ?_); (conv => whnf)) | (refine RdP.sub3 (by assumption) (by rfl) (W.mk ?_); (conv => whnf))))
        refine RoundP.of (i + 1, vs ++ [Value.string tx, I cl]) (HeadP.of [(3, some 126)] ⟨rfl, rfl, rfl, rfl, rfl, trivial⟩ ⟨rfl, trivial⟩) ⟨by show i + 1 ≤ vn; omega, ?_⟩ (by simp only; omega)
        dsimp only
        rw [htk]
        exact hrow.snoc _
      · have hie : i = (lookF r x).length := by omega
        subst hie
        rw [List.take_length] at hrow
        refine IteP.mk (fun _ => W.mk ?_) (fun h => absurd h0 h)
        (conv => whnf)
        refine PubP.mk (fun a1 c1 Gb hb hp => W.mk ?_)
        (conv => whnf)
        refine ScaP.g (ok2 (slRd pcE) (slRd pcE) fun _ _ => True) (x := (lookF r x, lookF r x)) ⟨_, _, rfl, hL.grow hb, hrow.pub hp (by omega), trivial⟩ (fun v hv => W.mk ?_)
        subst hv
        dsimp only
        (conv => whnf)
        refine ForkP.mk (fun _ => W.mk ?_) (fun h => by simp at h)
        (conv => whnf)
        refine ScaP.g okU (x := ()) rfl (fun v hv => W.mk ?_)
        subst hv
        (conv => whnf)
        first | exact FinP.mk rfl | (refine ForkP.mk (fun _ => W.mk ?_) (fun h => by cases h); (conv => whnf); exact FinP.mk rfl)
    have k1 : ¬ pc < 0 := k1
    refine IteP.mk (fun k2 => W.mk ?_) (fun k2 => W.mk ?_) <;> (conv => whnf)
    · have k2 : (sn : Int) ≤ pc := k2
      have hF : findF r x pc = (0, 7) := by rw [hF, if_neg (fun h => by omega)]
      rw [hF]
      refine IteP.mk (fun _ => W.mk ?_) (fun h => absurd rfl h)
      (conv => whnf)
      refine IteP.mk (fun _ => W.mk ?_) (fun h => absurd rfl h)
      (conv => whnf)
      refine RelP.g (ok2 rpRd rxRd fun r _ => Fine r) (x := (r, x)) ⟨_, _, rfl, hrv, hxv, hfine⟩ (Grow.refl _) (fun v G9 h9 q9 => W.mk ?_)
      dsimp only at q9
      obtain ⟨va, vn, vc, rfl, hv1, hv2⟩ := q9
      have hvn := hv1.len
      have hll : (lookF r x).length = (pcF (rgOf r x)).length := by rw [lookF, List.length_map]
      have hL := hL.grow h9
      (conv => whnf)
      refine LoopP.of { α := Nat × List Value, fr := fun y => [(8, .v (.slice la ln lc)), (9, .v (I (faultX r x))), (14, .c (.row 3 y.1)), (15, .v (.slice va vn vc)), (16, .v (I y.1))], H := fun y => [(3, .row none y.1 y.2 79 2)], ok := fun y _ => y.1 ≤ vn ∧ Row pcE ((lookF r x).take y.1) y.1 y.2, m := fun y => vn - y.1 }
        (0, []) (HeadP.of [(3, none)] ⟨rfl, rfl, rfl, rfl, rfl, trivial⟩ ⟨rfl, trivial⟩) ⟨Nat.zero_le _, Row.nil⟩ (fun _ => ⟨rfl, rfl⟩) (fun y Ga ha hx2 => W.mk ?_)
      obtain ⟨i, vs⟩ := y
      obtain ⟨hi, hrow⟩ := hx2
      dsimp only at hi hrow
      have hL := hL.grow ha
      dsimp only
      (conv => whnf)
      refine IteP.mk (fun hlt => W.mk ?_) (fun hge => W.mk ?_) <;> (conv => whnf)
      · have hlt : i < (lookF r x).length := by omega
        have hc := (SlR.grow (G := G9) (G' := Ga) (fun _ _ h => h) hv1 ha).el hlt
        have htk := take_snoc (List.getElem?_eq_getElem hlt)
        generalize (lookF r x)[i] = e at hc htk
        obtain ⟨tx, cl⟩ := e
        repeat' (first | (refine OblP.mk rfl (W.mk ?_); (conv => whnf)) | (refine OblP.mk ?_ (W.mk ?_); (first | trivial | omega | (simp only [inR]; omega) | exact Nat.le_of_ble_eq_true (by rfl) | exact SlR.some (by assumption) (by omega)); (conv => whnf)) | (first | (refine RdP.at (by assumption) (by rfl) (W.mk ?_); (conv => whnf)) | (refine RdP.sub (by assumption) (by rfl) (W.mk ?_); (conv => whnf)) | (refine RdP.sub2 (by assumption) (by rfl) (W.mk ?_); (conv => whnf)) | (refine RdP.sub3 (by assumption) (by rfl) (W.mk ?_); (conv => whnf))))
        refine RoundP.of (i + 1, vs ++ [Value.string tx, I cl]) (HeadP.of [(3, some 126)] ⟨rfl, rfl, rfl, rfl, rfl, trivial⟩ ⟨rfl, trivial⟩) ⟨by show i + 1 ≤ vn; omega, ?_⟩ (by simp only; omega)
        dsimp only
        rw [htk]
        exact hrow.snoc _
      · have hie : i = (lookF r x).length := by omega
        subst hie
        rw [List.take_length] at hrow
        refine IteP.mk (fun _ => W.mk ?_) (fun h => absurd h0 h)
        (conv => whnf)
        refine PubP.mk (fun a1 c1 Gb hb hp => W.mk ?_)
        (conv => whnf)
        refine ScaP.g (ok2 (slRd pcE) (slRd pcE) fun _ _ => True) (x := (lookF r x, lookF r x)) ⟨_, _, rfl, hL.grow hb, hrow.pub hp (by omega), trivial⟩ (fun v hv => W.mk ?_)
        subst hv
        dsimp only
        (conv => whnf)
        refine ForkP.mk (fun _ => W.mk ?_) (fun h => by simp at h)
        (conv => whnf)
        refine ScaP.g okU (x := ()) rfl (fun v hv => W.mk ?_)
        subst hv
        (conv => whnf)
        first | exact FinP.mk rfl | (refine ForkP.mk (fun _ => W.mk ?_) (fun h => by cases h); (conv => whnf); exact FinP.mk rfl)
    have k2 : ¬ (sn : Int) ≤ pc := k2
    obtain ⟨k, rfl⟩ : ∃ k : Nat, pc = k := ⟨pc.toNat, by omega⟩
    have hk : k < (pcF (rgOf r x)).length := by omega
    have hc := hs1.el (i := k) (by simpa using hk)
    rw [List.getElem_map] at hc
    have hmem := pcK_mem (rgOf r x) _ _ (List.getElem_mem hk)
    have hmem : (pcF (rgOf r x))[k].1 = -1 ∨ ∃ j : Nat, j < r.words.length ∧ (pcF (rgOf r x))[k].1 = j := hmem
    have hgd : ((pcF (rgOf r x)).map (·.1)).getD ((k : Nat) : Int).toNat (-1) = (pcF (rgOf r x))[k].1 := by simp [hk]
    rw [hgd] at hF
    generalize (pcF (rgOf r x))[k].1 = sh at hc hmem hF
    repeat' (first | (refine OblP.mk ?_ (W.mk ?_); (first | trivial | omega | (simp only [inR]; omega) | exact Nat.le_of_ble_eq_true (by rfl) | exact SlR.some (by assumption) (by omega)); (conv => whnf)) | (first | (refine RdP.at (by assumption) (by rfl) (W.mk ?_); (conv => whnf)) | (refine RdP.sub (by assumption) (by rfl) (W.mk ?_); (conv => whnf)) | (refine RdP.sub2 (by assumption) (by rfl) (W.mk ?_); (conv => whnf)) | (refine RdP.sub3 (by assumption) (by rfl) (W.mk ?_); (conv => whnf))))
    refine IteP.mk (fun k3 => W.mk ?_) (fun k3 => W.mk ?_) <;> (conv => whnf)
    · have k3 : sh < 0 := k3
      have hF : findF r x k = (0, 7) := by rw [hF, if_neg (fun h => by rcases hmem with e | ⟨j, _, e⟩; exact h.2.2 e; omega)]
      rw [hF]
      refine IteP.mk (fun _ => W.mk ?_) (fun h => absurd rfl h)
      (conv => whnf)
      refine IteP.mk (fun _ => W.mk ?_) (fun h => absurd rfl h)
      (conv => whnf)
      refine RelP.g (ok2 rpRd rxRd fun r _ => Fine r) (x := (r, x)) ⟨_, _, rfl, hrv, hxv, hfine⟩ (Grow.refl _) (fun v G9 h9 q9 => W.mk ?_)
      dsimp only at q9
      obtain ⟨va, vn, vc, rfl, hv1, hv2⟩ := q9
      have hvn := hv1.len
      have hll : (lookF r x).length = (pcF (rgOf r x)).length := by rw [lookF, List.length_map]
      have hL := hL.grow h9
      (conv => whnf)
      refine LoopP.of { α := Nat × List Value, fr := fun y => [(8, .v (.slice la ln lc)), (9, .v (I (faultX r x))), (14, .c (.row 3 y.1)), (15, .v (.slice va vn vc)), (16, .v (I y.1))], H := fun y => [(3, .row none y.1 y.2 79 2)], ok := fun y _ => y.1 ≤ vn ∧ Row pcE ((lookF r x).take y.1) y.1 y.2, m := fun y => vn - y.1 }
        (0, []) (HeadP.of [(3, none)] ⟨rfl, rfl, rfl, rfl, rfl, trivial⟩ ⟨rfl, trivial⟩) ⟨Nat.zero_le _, Row.nil⟩ (fun _ => ⟨rfl, rfl⟩) (fun y Ga ha hx2 => W.mk ?_)
      obtain ⟨i, vs⟩ := y
      obtain ⟨hi, hrow⟩ := hx2
      dsimp only at hi hrow
      have hL := hL.grow ha
      dsimp only
      (conv => whnf)
      refine IteP.mk (fun hlt => W.mk ?_) (fun hge => W.mk ?_) <;> (conv => whnf)
      · have hlt : i < (lookF r x).length := by omega
        have hc := (SlR.grow (G := G9) (G' := Ga) (fun _ _ h => h) hv1 ha).el hlt
        have htk := take_snoc (List.getElem?_eq_getElem hlt)
        generalize (lookF r x)[i] = e at hc htk
        obtain ⟨tx, cl⟩ := e
        repeat' (first | (refine OblP.mk rfl (W.mk ?_); (conv => whnf)) | (refine OblP.mk ?_ (W.mk ?_); (first | trivial | omega | (simp only [inR]; omega) | exact Nat.le_of_ble_eq_true (by rfl) | exact SlR.some (by assumption) (by omega)); (conv => whnf)) | (first | (refine RdP.at (by assumption) (by rfl) (W.mk ?_); (conv => whnf)) | (refine RdP.sub (by assumption) (by rfl) (W.mk ?_); (conv => whnf)) | (refine RdP.sub2 (by assumption) (by rfl) (W.mk ?_); (conv => whnf)) | (refine RdP.sub3 (by assumption) (by rfl) (W.mk ?_); (conv => whnf))))
        refine RoundP.of (i + 1, vs ++ [Value.string tx, I cl]) (HeadP.of [(3, some 126)] ⟨rfl, rfl, rfl, rfl, rfl, trivial⟩ ⟨rfl, trivial⟩) ⟨by show i + 1 ≤ vn; omega, ?_⟩ (by simp only; omega)
        dsimp only
        rw [htk]
        exact hrow.snoc _
      · have hie : i = (lookF r x).length := by omega
        subst hie
        rw [List.take_length] at hrow
        refine IteP.mk (fun _ => W.mk ?_) (fun h => absurd h0 h)
        (conv => whnf)
        refine PubP.mk (fun a1 c1 Gb hb hp => W.mk ?_)
        (conv => whnf)
        refine ScaP.g (ok2 (slRd pcE) (slRd pcE) fun _ _ => True) (x := (lookF r x, lookF r x)) ⟨_, _, rfl, hL.grow hb, hrow.pub hp (by omega), trivial⟩ (fun v hv => W.mk ?_)
        subst hv
        dsimp only
        (conv => whnf)
        refine ForkP.mk (fun _ => W.mk ?_) (fun h => by simp at h)
        (conv => whnf)
        refine ScaP.g okU (x := ()) rfl (fun v hv => W.mk ?_)
        subst hv
        (conv => whnf)
        first | exact FinP.mk rfl | (refine ForkP.mk (fun _ => W.mk ?_) (fun h => by cases h); (conv => whnf); exact FinP.mk rfl)
    have k3 : ¬ sh < 0 := k3
    have hF : findF r x k = (sh, 0) := by rw [hF, if_pos ⟨by omega, by omega, by omega⟩]
    rw [hF]
    refine IteP.mk (fun _ => W.mk ?_) (fun h => absurd rfl h)
    (conv => whnf)
    repeat' (first | (refine OblP.mk ?_ (W.mk ?_); (first | trivial | omega | (simp only [inR]; omega) | exact Nat.le_of_ble_eq_true (by rfl) | exact SlR.some (by assumption) (by omega)); (conv => whnf)) | (first | (refine RdP.at (by assumption) (by rfl) (W.mk ?_); (conv => whnf)) | (refine RdP.sub (by assumption) (by rfl) (W.mk ?_); (conv => whnf)) | (refine RdP.sub2 (by assumption) (by rfl) (W.mk ?_); (conv => whnf)) | (refine RdP.sub3 (by assumption) (by rfl) (W.mk ?_); (conv => whnf))))
    refine IteP.mk (fun _ => W.mk ?_) (fun h => absurd rfl h)
    (conv => whnf)
    refine RelP.g (ok2 rpRd rxRd fun r _ => Fine r) (x := (r, x)) ⟨_, _, rfl, hrv, hxv, hfine⟩ (Grow.refl _) (fun v G9 h9 q9 => W.mk ?_)
    dsimp only at q9
    obtain ⟨va, vn, vc, rfl, hv1, hv2⟩ := q9
    have hvn := hv1.len
    have hll : (lookF r x).length = (pcF (rgOf r x)).length := by rw [lookF, List.length_map]
    have hL := hL.grow h9
    (conv => whnf)
    refine LoopP.of { α := Nat × List Value, fr := fun y => [(8, .v (.slice la ln lc)), (9, .v (I (faultX r x))), (14, .c (.row 3 y.1)), (15, .v (.slice va vn vc)), (16, .v (I y.1))], H := fun y => [(3, .row none y.1 y.2 79 2)], ok := fun y _ => y.1 ≤ vn ∧ Row pcE ((lookF r x).take y.1) y.1 y.2, m := fun y => vn - y.1 }
      (0, []) (HeadP.of [(3, none)] ⟨rfl, rfl, rfl, rfl, rfl, trivial⟩ ⟨rfl, trivial⟩) ⟨Nat.zero_le _, Row.nil⟩ (fun _ => ⟨rfl, rfl⟩) (fun y Ga ha hx2 => W.mk ?_)
    obtain ⟨i, vs⟩ := y
    obtain ⟨hi, hrow⟩ := hx2
    dsimp only at hi hrow
    have hL := hL.grow ha
    dsimp only
    (conv => whnf)
    refine IteP.mk (fun hlt => W.mk ?_) (fun hge => W.mk ?_) <;> (conv => whnf)
    · have hlt : i < (lookF r x).length := by omega
      have hc := (SlR.grow (G := G9) (G' := Ga) (fun _ _ h => h) hv1 ha).el hlt
      have htk := take_snoc (List.getElem?_eq_getElem hlt)
      generalize (lookF r x)[i] = e at hc htk
      obtain ⟨tx, cl⟩ := e
      repeat' (first | (refine OblP.mk rfl (W.mk ?_); (conv => whnf)) | (refine OblP.mk ?_ (W.mk ?_); (first | trivial | omega | (simp only [inR]; omega) | exact Nat.le_of_ble_eq_true (by rfl) | exact SlR.some (by assumption) (by omega)); (conv => whnf)) | (first | (refine RdP.at (by assumption) (by rfl) (W.mk ?_); (conv => whnf)) | (refine RdP.sub (by assumption) (by rfl) (W.mk ?_); (conv => whnf)) | (refine RdP.sub2 (by assumption) (by rfl) (W.mk ?_); (conv => whnf)) | (refine RdP.sub3 (by assumption) (by rfl) (W.mk ?_); (conv => whnf))))
      refine RoundP.of (i + 1, vs ++ [Value.string tx, I cl]) (HeadP.of [(3, some 126)] ⟨rfl, rfl, rfl, rfl, rfl, trivial⟩ ⟨rfl, trivial⟩) ⟨by show i + 1 ≤ vn; omega, ?_⟩ (by simp only; omega)
      dsimp only
      rw [htk]
      exact hrow.snoc _
    · have hie : i = (lookF r x).length := by omega
      subst hie
      rw [List.take_length] at hrow
      refine IteP.mk (fun _ => W.mk ?_) (fun h => absurd h0 h)
      (conv => whnf)
      refine PubP.mk (fun a1 c1 Gb hb hp => W.mk ?_)
      (conv => whnf)
      refine ScaP.g (ok2 (slRd pcE) (slRd pcE) fun _ _ => True) (x := (lookF r x, lookF r x)) ⟨_, _, rfl, hL.grow hb, hrow.pub hp (by omega), trivial⟩ (fun v hv => W.mk ?_)
      subst hv
      dsimp only
      (conv => whnf)
      refine ForkP.mk (fun _ => W.mk ?_) (fun h => by simp at h)
      (conv => whnf)
      refine ScaP.g okU (x := ()) rfl (fun v hv => W.mk ?_)
      subst hv
      (conv => whnf)
      first | exact FinP.mk rfl | (refine ForkP.mk (fun _ => W.mk ?_) (fun h => by cases h); (conv => whnf); exact FinP.mk rfl)
end Go.Proofs.Ytpcpjmplgladmaa

/- Layer 9: the law VeilShuts. -/
  namespace Go.Proofs.Ytpcpjmplgladmaa
open Go.Pal Go.RowKit
set_option maxRecDepth 100000
theorem law4 : Sound Try.prog 4 id (gsca (args2 ruRd xuRd fun _ _ => True) fun _ v => v = .bool true) := by
  refine comp4.gsca (Tab.cons 22 _ closed22 body22 tabLw) (fun args G s h => ?_) (fun args G p h => ?_)
  · obtain ⟨u, v, rfl, _⟩ := h; simp
  · obtain ⟨r, x⟩ := p
    obtain ⟨u, v, rfl, hr, hx, _⟩ := h
    dsimp only at hr hx
    obtain ⟨rw_, ro, rfl, ⟨wa, wn, wc, rfl, hwu1, hwu2⟩, ⟨oa, on, oc, rfl, hou1, hou2⟩⟩ := id hr
    obtain ⟨m, rfl, ⟨ma, mn, mc, rfl, hmu1, hmu2⟩⟩ := id hx
    try dsimp only
    (conv => whnf)
    refine ScaP.g (ok2 ruRd xuRd fun _ _ => True) (x := (r, x)) ⟨_, _, rfl, hr, hx, trivial⟩ (fun v hv => W.mk ?_)
    subst hv
    try dsimp only
    (conv => whnf)
    refine ForkP.mk (fun hfw => W.mk ?_) (fun hfw => W.mk ?_) <;> (conv => whnf)
    rotate_left
    · refine ScaP.g okU (x := ()) rfl (fun v hv => W.mk ?_)
      subst hv
      (conv => whnf)
      refine ForkP.mk (fun _ => W.mk ?_) (fun h => by cases h)
      (conv => whnf)
      exact FinP.mk rfl
    have hf := few_of hfw
    have hrv := hr.v hf
    have hxv := hx.v hf
    have htx : ∀ w ∈ r.words, w.text.size ≤ 1000 := fun w hw => by have := (hf.w w hw).1; omega
    refine RelP.g (ok1 rpRd Repo) (x := r) ⟨_, rfl, hrv, hf.repo⟩ (Grow.refl _) (fun v G2 h2 q2 => W.mk ?_)
    obtain ⟨_, _, rfl, _⟩ := id q2
    have hrv := rpRd.grow h2 hrv
    have hxv := rxRd.grow h2 hxv
    (conv => whnf)
    refine RelP.g (ok1 rxRd fun x => x.may.length ≤ 1000) (x := x) ⟨_, rfl, hxv, by have := hf.ml; omega⟩ (Grow.refl _) (fun v G3 h3 q3 => W.mk ?_)
    obtain ⟨_, rfl, _⟩ := id q3
    have hrv := rpRd.grow h3 hrv
    have hxv := rxRd.grow h3 hxv
    (conv => whnf)
    refine RelP.g (ok2 rpRd rxRd fun _ _ => True) (x := (r, x)) ⟨_, _, rfl, rpRd.grow h3 q2, q3, trivial⟩ (Grow.refl _) (fun v G4 h4 q4 => W.mk ?_)
    obtain ⟨wl, rfl, hL⟩ := q4
    dsimp only at hL ⊢
    have hL0 : ∃ a n c, wl = .slice a n c ∧ (faultX r x ≠ 0 → n = 0) := by
      obtain ⟨a, n, c, e, k1, _⟩ := id hL
      refine ⟨a, n, c, e, fun h => ?_⟩
      have := k1.len
      rw [if_neg h] at this
      exact this.symm
    obtain ⟨la, ln, lc, rfl, hln0⟩ := hL0
    have hrv := rpRd.grow h4 hrv
    have hxv := rxRd.grow h4 hxv
    (conv => whnf)
    refine ScaP.g (ok2 rpRd rxRd _) (x := (r, x)) ⟨_, _, rfl, hrv, hxv, htx⟩ (fun v hv => W.mk ?_)
    subst hv
    dsimp only
    (conv => whnf)
    refine IteP.mk (fun h0 => W.mk ?_) (fun h0 => W.mk ?_) <;> (conv => whnf)
    rotate_left
    · have h0 : ¬ faultX r x = 0 := h0
      obtain rfl := hln0 h0
      refine IteP.mk (fun _ => W.mk ?_) (fun h => absurd rfl h)
      (conv => whnf)
      refine IteP.mk (fun _ => W.mk ?_) (fun h => absurd rfl h)
      (conv => whnf)
      refine ScaP.g okU (x := ()) rfl (fun v hv => W.mk ?_)
      subst hv
      (conv => whnf)
      first | exact FinP.mk rfl | (refine ForkP.mk (fun _ => W.mk ?_) (fun h => by cases h); (conv => whnf); exact FinP.mk rfl)
    have h0 : faultX r x = 0 := h0
    obtain ⟨hfine, hrx⟩ := faultX_fine h0
    rw [if_pos h0] at hL
    refine RelP.g (ok2 rpRd rxRd fun r _ => Fine r) (x := (r, x)) ⟨_, _, rfl, hrv, hxv, hfine⟩ (Grow.refl _) (fun v G9 h9 q9 => W.mk ?_)
    dsimp only at q9
    obtain ⟨va, vn, vc, rfl, hv1, hv2⟩ := q9
    have hvn := hv1.len
    have hL := hL.grow h9
    obtain ⟨_, _, _, e1, hl1, hl2⟩ := hL
    cases e1
    have hln := hl1.len
    have hlen : ln = vn := by omega
    subst hlen
    (conv => whnf)
    refine IteP.mk (fun _ => W.mk ?_) (fun h => absurd h0 h)
    (conv => whnf)
    refine IteP.mk (fun _ => W.mk ?_) (fun h => absurd rfl h)
    (conv => whnf)
    refine LoopP.of { α := Nat, fr := fun y => [(5, .v (.slice la ln lc)), (8, .v (.slice va ln vc)), (9, .v (I y))], H := fun _ => [], ok := fun y _ => y ≤ ln, m := fun y => ln - y }
      0 (HeadP.of [] ⟨rfl, rfl, rfl, trivial⟩ trivial) (Nat.zero_le _) (fun _ => ⟨rfl, rfl⟩) (fun (i : Nat) Ga ha hx2 => W.mk ?_)
    have hi : i ≤ ln := hx2
    dsimp only
    (conv => whnf)
    refine IteP.mk (fun hlt => W.mk ?_) (fun hge => W.mk ?_) <;> (conv => whnf)
    · have hlt : i < (clF (rgOf r x)).length := by omega
      have hc := (SlR.grow (G := G9) (G' := Ga) (fun _ _ h => h) hv1 ha).el hlt
      have hc' := (SlR.grow (G := G9) (G' := Ga) (fun _ _ h => h) hl1 ha).el hlt
      generalize (clF (rgOf r x))[i] = e at hc hc'
      obtain ⟨f, t, y⟩ := e
      repeat' (first | (refine OblP.mk ?_ (W.mk ?_); (first | trivial | omega | (simp only [inR]; omega) | exact Nat.le_of_ble_eq_true (by rfl) | exact SlR.some (by assumption) (by omega)); (conv => whnf)) | (first | (refine RdP.at (by assumption) (by rfl) (W.mk ?_); (conv => whnf)) | (refine RdP.sub (by assumption) (by rfl) (W.mk ?_); (conv => whnf)) | (refine RdP.sub2 (by assumption) (by rfl) (W.mk ?_); (conv => whnf)) | (refine RdP.sub3 (by assumption) (by rfl) (W.mk ?_); (conv => whnf))))
      refine PurP.of _ (ne55 f t y f t y) (W.mk ?_)
      (conv => whnf)
      refine ForkP.mk (fun h => by simp at h) (fun _ => W.mk ?_)
      (conv => whnf)
      repeat' (first | (refine OblP.mk ?_ (W.mk ?_); (first | trivial | omega | (simp only [inR]; omega) | exact Nat.le_of_ble_eq_true (by rfl) | exact SlR.some (by assumption) (by omega)); (conv => whnf)) | (first | (refine RdP.at (by assumption) (by rfl) (W.mk ?_); (conv => whnf)) | (refine RdP.sub (by assumption) (by rfl) (W.mk ?_); (conv => whnf)) | (refine RdP.sub2 (by assumption) (by rfl) (W.mk ?_); (conv => whnf)) | (refine RdP.sub3 (by assumption) (by rfl) (W.mk ?_); (conv => whnf))))
      exact RoundP.of (i + 1) (HeadP.of [] ⟨rfl, rfl, rfl, trivial⟩ trivial) (by show i + 1 ≤ ln; omega) (by simp only; omega)
    · refine ScaP.g okU (x := ()) rfl (fun v hv => W.mk ?_)
      subst hv
      (conv => whnf)
      first | exact FinP.mk rfl | (refine ForkP.mk (fun _ => W.mk ?_) (fun h => by cases h); (conv => whnf); exact FinP.mk rfl)
end Go.Proofs.Ytpcpjmplgladmaa

/- Layer 9: the law VeilIndexes. -/
  namespace Go.Proofs.Ytpcpjmplgladmaa
open Go.Pal Go.RowKit
set_option maxRecDepth 100000
theorem EnsV.raw {G : Hp} {a : Option Addr} {n c : Nat} {l : List En} (h : SlR 2 EnR G a n c l) : ∃ F : Nat → REn, SlR 2 enE.R G a n c ((List.range n).map F) ∧ ∀ i (hi : i < l.length), EnR G (enE.f (F i)) l[i] := by
  have ex : ∀ i, ∃ x : REn, ∀ hi : i < l.length, CellsAt G (ab a) (ao a + i * 2) (enE.f x) ∧ EnR G (enE.f x) l[i] := fun i => by
    by_cases hi : i < l.length
    · obtain ⟨cs, _, h1, hd, rfl, a', n', c', rfl, h3, h4⟩ := h.at_ i hi
      exact ⟨(l[i].head, a', n', c'), fun _ => ⟨h1, _, rfl, a', n', c', rfl, h3, h4⟩⟩
    · exact ⟨(0, none, 0, 0), fun h => absurd h hi⟩
  refine ⟨fun i => Classical.choose (ex i), ⟨by simp, h.cap, h.some, fun i hi => ?_⟩, fun i hi => (Classical.choose_spec (ex i) hi).2⟩
  have hn : i < l.length := by rw [h.len]; simpa using hi
  refine ⟨_, rfl, (Classical.choose_spec (ex i) hn).1, ?_⟩
  simp only [List.getElem_map, List.getElem_range]
  rfl
theorem index_len (r : Rp) (x : Rx) : (indexF r x).length ≤ 100 := by rw [← enK_index]; exact enK_len _ _
theorem law3 : Sound Try.prog 3 id (gsca (args2 ruRd xuRd fun _ _ => True) fun _ v => v = .bool true) := by
  refine comp3.gsca (Tab.cons 19 _ index19 body19 tabLw) (fun args G s h => ?_) (fun args G p h => ?_)
  · obtain ⟨u, v, rfl, _⟩ := h; simp
  · obtain ⟨r, x⟩ := p
    obtain ⟨u, v, rfl, hr, hx, _⟩ := h
    dsimp only at hr hx
    obtain ⟨rw_, ro, rfl, ⟨wa, wn, wc, rfl, hwu1, hwu2⟩, ⟨oa, on, oc, rfl, hou1, hou2⟩⟩ := id hr
    obtain ⟨m, rfl, ⟨ma, mn, mc, rfl, hmu1, hmu2⟩⟩ := id hx
    try dsimp only
    (conv => whnf)
    refine ScaP.g (ok2 ruRd xuRd fun _ _ => True) (x := (r, x)) ⟨_, _, rfl, hr, hx, trivial⟩ (fun v hv => W.mk ?_)
    subst hv
    try dsimp only
    (conv => whnf)
    refine ForkP.mk (fun hfw => W.mk ?_) (fun hfw => W.mk ?_) <;> (conv => whnf)
    rotate_left
    · refine ScaP.g okU (x := ()) rfl (fun v hv => W.mk ?_)
      subst hv
      (conv => whnf)
      refine ForkP.mk (fun _ => W.mk ?_) (fun h => by cases h)
      (conv => whnf)
      exact FinP.mk rfl
    have hf := few_of hfw
    have hrv := hr.v hf
    have hxv := hx.v hf
    have htx : ∀ w ∈ r.words, w.text.size ≤ 1000 := fun w hw => by have := (hf.w w hw).1; omega
    refine RelP.g (ok1 rpRd Repo) (x := r) ⟨_, rfl, hrv, hf.repo⟩ (Grow.refl _) (fun v G2 h2 q2 => W.mk ?_)
    obtain ⟨_, _, rfl, _⟩ := id q2
    have hrv := rpRd.grow h2 hrv
    have hxv := rxRd.grow h2 hxv
    (conv => whnf)
    refine RelP.g (ok1 rxRd fun x => x.may.length ≤ 1000) (x := x) ⟨_, rfl, hxv, by have := hf.ml; omega⟩ (Grow.refl _) (fun v G3 h3 q3 => W.mk ?_)
    obtain ⟨_, rfl, _⟩ := id q3
    have hrv := rpRd.grow h3 hrv
    have hxv := rxRd.grow h3 hxv
    (conv => whnf)
    refine RelP.g (ok2 rpRd rxRd fun _ _ => True) (x := (r, x)) ⟨_, _, rfl, rpRd.grow h3 q2, q3, trivial⟩ (Grow.refl _) (fun v G4 h4 q4 => W.mk ?_)
    obtain ⟨wl, rfl, hL⟩ := q4
    dsimp only at hL ⊢
    have hL0 : ∃ a n c, wl = .slice a n c ∧ (faultX r x ≠ 0 → n = 0) := by
      obtain ⟨a, n, c, e, k1, _⟩ := id hL
      refine ⟨a, n, c, e, fun h => ?_⟩
      have := k1.len
      rw [if_neg h] at this
      exact this.symm
    obtain ⟨la, ln, lc, rfl, hln0⟩ := hL0
    have hrv := rpRd.grow h4 hrv
    have hxv := rxRd.grow h4 hxv
    (conv => whnf)
    refine ScaP.g (ok2 rpRd rxRd _) (x := (r, x)) ⟨_, _, rfl, hrv, hxv, htx⟩ (fun v hv => W.mk ?_)
    subst hv
    dsimp only
    (conv => whnf)
    refine IteP.mk (fun h0 => W.mk ?_) (fun h0 => W.mk ?_) <;> (conv => whnf)
    rotate_left
    · have h0 : ¬ faultX r x = 0 := h0
      obtain rfl := hln0 h0
      refine IteP.mk (fun _ => W.mk ?_) (fun h => absurd rfl h)
      (conv => whnf)
      refine IteP.mk (fun _ => W.mk ?_) (fun h => absurd rfl h)
      (conv => whnf)
      refine ScaP.g okU (x := ()) rfl (fun v hv => W.mk ?_)
      subst hv
      (conv => whnf)
      first | exact FinP.mk rfl | (refine ForkP.mk (fun _ => W.mk ?_) (fun h => by cases h); (conv => whnf); exact FinP.mk rfl)
    have h0 : faultX r x = 0 := h0
    obtain ⟨hfine, hrx⟩ := faultX_fine h0
    rw [if_pos h0] at hL
    refine RelP.g (ok2 rpRd rxRd fun r _ => Fine r) (x := (r, x)) ⟨_, _, rfl, hrv, hxv, hfine⟩ (Grow.refl _) (fun v G9 h9 q9 => W.mk ?_)
    dsimp only at q9
    obtain ⟨va, vn, vc, rfl, hv1, hv2⟩ := q9
    have hvn := hv1.len
    have hil := index_len r x
    have hL := hL.grow h9
    obtain ⟨F, hF1, hF2⟩ := EnsV.raw hv1
    have hF1 : SlR enE.k enE.R G9 va vn vc ((List.range vn).map F) := hF1
    (conv => whnf)
    refine LoopP.of { α := Nat × List Value, fr := fun y => [(5, .v (.slice la ln lc)), (6, .v (I (faultX r x))), (8, .c (.row 4 y.1)), (9, .v (.slice va vn vc)), (10, .v (I y.1))], H := fun y => [(4, .row none y.1 y.2 47 2)], ok := fun y _ => y.1 ≤ vn ∧ Row enE (((List.range vn).map F).take y.1) y.1 y.2, m := fun y => vn - y.1 }
      (0, []) (HeadP.of [(4, none)] ⟨rfl, rfl, rfl, rfl, rfl, trivial⟩ ⟨rfl, trivial⟩) ⟨Nat.zero_le _, Row.nil⟩ (fun _ => ⟨rfl, rfl⟩) (fun y Ga ha hx2 => W.mk ?_)
    obtain ⟨i, vs⟩ := y
    obtain ⟨hi, hrow⟩ := hx2
    dsimp only at hi hrow
    dsimp only
    (conv => whnf)
    refine IteP.mk (fun hlt => W.mk ?_) (fun hge => W.mk ?_) <;> (conv => whnf)
    · have hlt : i < ((List.range vn).map F).length := by simp; omega
      have hc := (SlR.grow (G := G9) (G' := Ga) (fun _ _ h => h) hF1 ha).el hlt
      have htk := take_snoc (List.getElem?_eq_getElem hlt)
      generalize ((List.range vn).map F)[i] = e at hc htk
      obtain ⟨hd, a1, n1, c1⟩ := e
      repeat' (first | (refine OblP.mk rfl (W.mk ?_); (conv => whnf)) | (refine OblP.mk ?_ (W.mk ?_); (first | trivial | omega | (simp only [inR]; omega) | exact Nat.le_of_ble_eq_true (by rfl) | exact SlR.some (by assumption) (by omega)); (conv => whnf)) | (first | (refine RdP.at (by assumption) (by rfl) (W.mk ?_); (conv => whnf)) | (refine RdP.sub (by assumption) (by rfl) (W.mk ?_); (conv => whnf)) | (refine RdP.sub2 (by assumption) (by rfl) (W.mk ?_); (conv => whnf)) | (refine RdP.sub3 (by assumption) (by rfl) (W.mk ?_); (conv => whnf))))
      refine RoundP.of (i + 1, vs ++ [I hd, Value.slice a1 n1 c1]) (HeadP.of [(4, some 60)] ⟨rfl, rfl, rfl, rfl, rfl, trivial⟩ ⟨rfl, trivial⟩) ⟨by show i + 1 ≤ vn; simp at hlt; omega, ?_⟩ (by simp only; simp at hlt; omega)
      dsimp only
      rw [htk]
      exact hrow.snoc _
    · have hie : i = vn := by omega
      subst hie
      rw [List.take_of_length_le (by simp)] at hrow
      refine IteP.mk (fun _ => W.mk ?_) (fun h => absurd h0 h)
      (conv => whnf)
      refine PubP.mk (fun a1 c1 Gb hb hp => W.mk ?_)
      (conv => whnf)
      have hW : EnsV Gb (.slice a1 i c1) (indexF r x) := by
        obtain ⟨_, _, _, q1, q2, q3⟩ := hrow.pub hp (by omega)
        cases q1
        refine ⟨_, _, _, rfl, SlR.mapEn q2 (by simp [hvn]) fun k j1 j2 => ?_, q3⟩
        have e1 : ((List.range i).map F)[k] = F k := by simp
        rw [e1]
        exact ((hF2 k j2).grow ha).grow hb
      refine ScaP.g (ok2 ensRd ensRd fun _ _ => True) (x := (indexF r x, indexF r x)) ⟨_, _, rfl, (hL.grow ha).grow hb, hW, trivial⟩ (fun v hv => W.mk ?_)
      subst hv
      dsimp only
      (conv => whnf)
      refine ForkP.mk (fun _ => W.mk ?_) (fun h => by simp at h)
      (conv => whnf)
      refine ScaP.g okU (x := ()) rfl (fun v hv => W.mk ?_)
      subst hv
      (conv => whnf)
      first | exact FinP.mk rfl | (refine ForkP.mk (fun _ => W.mk ?_) (fun h => by cases h); (conv => whnf); exact FinP.mk rfl)
end Go.Proofs.Ytpcpjmplgladmaa

namespace Go.Proofs.Ytpcpjmplgladmaa
open Go.Pal
set_option maxRecDepth 100000
theorem yr_fold (x : Rx) (i : Nat) : ∀ (os : List Od) (y0 : Int), y0 ≤ os.foldl (yrS x i) y0 ∧ (∀ o ∈ os, shutsF x o = true → inF i o.f (o.t - 1) = true → o.u ≤ os.foldl (yrS x i) y0) ∧ (os.foldl (yrS x i) y0 = y0 ∨ ∃ o ∈ os, shutsF x o = true ∧ inF i o.f (o.t - 1) = true ∧ os.foldl (yrS x i) y0 = o.u)
  | [], y0 => ⟨Int.le_refl _, fun o h => (by cases h), .inl rfl⟩
  | q :: t, y0 => by
    obtain ⟨h1, h2, h3⟩ := yr_fold x i t (yrS x i y0 q)
    rw [List.foldl_cons]
    have hq : yrS x i y0 q = if shutsF x q && inF i q.f (q.t - 1) then max y0 q.u else y0 := rfl
    have hle : y0 ≤ yrS x i y0 q := by rw [hq]; split <;> omega
    refine ⟨by omega, fun o ho k1 k2 => ?_, ?_⟩
    · rcases List.mem_cons.1 ho with rfl | ho
      · have : o.u ≤ yrS x i y0 o := by rw [hq, k1, k2]; simp; omega
        omega
      · exact h2 o ho k1 k2
    · rcases h3 with h3 | ⟨o, ho, k1, k2, k3⟩
      · rw [h3, hq]
        split
        · rename_i hc
          rw [Bool.and_eq_true] at hc
          by_cases hm : q.u ≤ y0
          · exact .inl (by omega)
          · exact .inr ⟨q, by simp, hc.1, hc.2, by omega⟩
        · exact .inl rfl
      · exact .inr ⟨o, by simp [ho], k1, k2, k3⟩
structure RunS (g : Rg) (n : Nat) (s : Sh) : Prop where
  rng : 0 ≤ s.f ∧ s.f < s.t ∧ s.t ≤ n
  hid : ∀ i : Nat, s.f ≤ i → (i : Int) < s.t → g.p i = true
  lo : s.f = 0 ∨ g.p (s.f - 1).toNat = false
  hi : s.t = n ∨ g.p s.t.toNat = false
  y1 : ∀ o ∈ g.r.orders, shutsF g.x o = true → ∀ i : Nat, s.f ≤ i → (i : Int) < s.t → inF i o.f (o.t - 1) = true → o.u ≤ s.y
  y2 : s.y = 0 ∨ ∃ o ∈ g.r.orders, shutsF g.x o = true ∧ (∃ i : Nat, s.f ≤ i ∧ (i : Int) < s.t ∧ inF i o.f (o.t - 1) = true) ∧ s.y = o.u
structure Runs (g : Rg) (n : Nat) (L : List Sh) : Prop where
  all : ∀ s ∈ L, RunS g n s
  srt : L.Pairwise fun a b => a.t < b.f
  cov : ∀ i : Nat, i < n → g.p i = true → ∃ s ∈ L, s.f ≤ i ∧ (i : Int) < s.t
  sum : (L.map fun s => s.t - s.f).sum = ((List.range n).countP g.p : Nat)
  last : ∀ i : Nat, n = i + 1 → g.p i = true → ∃ (L0 : List Sh) (s : Sh), L = L0 ++ [s] ∧ s.t = (n : Int)
theorem cnt_succ (p : Nat → Bool) (n : Nat) : (((List.range (n + 1)).countP p : Nat) : Int) = ((List.range n).countP p : Nat) + (if p n then 1 else 0) := by
  rw [List.range_succ, List.countP_append]
  cases h : p n <;> simp [h]
theorem runs_ex (g : Rg) : ∀ n, Runs g n (clK g n)
  | 0 => ⟨fun s h => (by simp [clK] at h), List.Pairwise.nil, fun i h => (by omega), by simp [clK], fun i h => by omega⟩
  | n + 1 => by
    have ih := runs_ex g n
    have hcnt := cnt_succ g.p n
    simp only [clK]
    by_cases hp : g.p n = true
    · rw [if_pos hp]
      rw [hp] at hcnt
      simp only [if_true] at hcnt
      by_cases hn : n = 0 ∨ g.p (n - 1) = false
      · have hI : clI g n (clK g n) = clK g n ++ [⟨n, 0, 0⟩] := if_pos hn
        rw [hI, setL_snoc, lastY_snoc]
        obtain ⟨f1, f2, f3⟩ := yr_fold g.x n g.r.orders 0
        generalize g.r.orders.foldl (yrS g.x n) 0 = Y at f1 f2 f3
        have hne : ∀ s ∈ clK g n, s.t ≠ n := fun s hs e => by
          have h1 := ih.all s hs
          rcases hn with h | h
          · have := h1.rng; omega
          · have := h1.hid (n - 1) (by have := h1.rng; omega) (by have := h1.rng; omega)
            rw [h] at this; cases this
        have hone : ∀ i : Nat, (n : Int) ≤ i → (i : Int) < (n : Int) + 1 → i = n := fun i h1 h2 => by omega
        refine ⟨fun s hs => ?_, ?_, fun i hi hpi => ?_, ?_, fun i hi _ => ⟨clK g n, _, rfl, by simp⟩⟩
        · rcases List.mem_append.1 hs with hs | hs
          · have h1 := ih.all s hs
            have h2 := hne s hs
            refine ⟨⟨h1.rng.1, h1.rng.2.1, by have := h1.rng.2.2; omega⟩, h1.hid, h1.lo, .inr (h1.hi.resolve_left h2), h1.y1, h1.y2⟩
          · simp at hs
            subst hs
            refine ⟨⟨by show (0 : Int) ≤ n; omega, by show (n : Int) < (n : Int) + 1; omega, by show (n : Int) + 1 ≤ ((n + 1 : Nat) : Int); omega⟩, fun i h1 h2 => by rw [hone i h1 h2]; exact hp, ?_, .inl (by show (n : Int) + 1 = ((n + 1 : Nat) : Int); omega), fun o ho k1 i h1 h2 k2 => f2 o ho k1 (by rw [← hone i h1 h2]; exact k2), ?_⟩
            · rcases hn with h | h
              · exact .inl (by show (n : Int) = 0; omega)
              · refine .inr ?_
                show g.p ((n : Int) - 1).toNat = false
                rw [show ((n : Int) - 1).toNat = n - 1 by omega]; exact h
            · rcases f3 with f3 | ⟨o, ho, k1, k2, k3⟩
              · exact .inl f3
              · exact .inr ⟨o, ho, k1, ⟨n, by show (n : Int) ≤ n; omega, by show (n : Int) < (n : Int) + 1; omega, k2⟩, k3⟩
        · rw [List.pairwise_append]
          refine ⟨ih.srt, List.pairwise_singleton _ _, fun a ha b hb => ?_⟩
          simp at hb
          subst hb
          show a.t < (n : Int)
          have h1 := (ih.all a ha).rng
          have h2 := hne a ha
          omega
        · by_cases he : i = n
          · subst he
            exact ⟨⟨i, (i : Int) + 1, Y⟩, by simp, by show (i : Int) ≤ i; omega, by show (i : Int) < (i : Int) + 1; omega⟩
          · obtain ⟨s, hs, h1, h2⟩ := ih.cov i (by omega) hpi
            exact ⟨s, by simp [hs], h1, h2⟩
        · rw [List.map_append, List.sum_append, ih.sum, hcnt]
          simp
          omega
      · have hn0 : n ≠ 0 := fun h => hn (.inl h)
        have hpn : g.p (n - 1) = true := by cases h : g.p (n - 1) with
          | true => rfl
          | false => exact absurd (.inr h) hn
        have hI : clI g n (clK g n) = clK g n := if_neg hn
        obtain ⟨L0, s0, hL, ht⟩ := ih.last (n - 1) (by omega) hpn
        rw [hI, hL, setL_snoc, lastY_snoc]
        rw [hL] at ih
        obtain ⟨f1, f2, f3⟩ := yr_fold g.x n g.r.orders s0.y
        generalize g.r.orders.foldl (yrS g.x n) s0.y = Y at f1 f2 f3
        have h0 := ih.all s0 (by simp)
        have hsrt := ih.srt
        rw [List.pairwise_append] at hsrt
        have hlt : ∀ s ∈ L0, s.t < s0.f := fun s hs => hsrt.2.2 s hs s0 (by simp)
        refine ⟨fun s hs => ?_, ?_, fun i hi hpi => ?_, ?_, fun i hi _ => ⟨L0, _, rfl, by simp⟩⟩
        · rcases List.mem_append.1 hs with hs | hs
          · have h1 := ih.all s (by simp [hs])
            have h2 := hlt s hs
            refine ⟨⟨h1.rng.1, h1.rng.2.1, by have := h1.rng.2.2; omega⟩, h1.hid, h1.lo, .inr (h1.hi.resolve_left (by have := h0.rng; omega)), h1.y1, h1.y2⟩
          · simp at hs
            subst hs
            refine ⟨⟨h0.rng.1, by show s0.f < (n : Int) + 1; have := h0.rng; omega, by show (n : Int) + 1 ≤ ((n + 1 : Nat) : Int); omega⟩, fun i h1 h2 => ?_, h0.lo, .inl (by show (n : Int) + 1 = ((n + 1 : Nat) : Int); omega), fun o ho k1 i h1 h2 k2 => ?_, ?_⟩
            · have h2 : (i : Int) < (n : Int) + 1 := h2
              by_cases he : i = n
              · rw [he]; exact hp
              · exact h0.hid i h1 (by omega)
            · have h2 : (i : Int) < (n : Int) + 1 := h2
              show o.u ≤ Y
              by_cases he : i = n
              · subst he; exact f2 o ho k1 k2
              · have := h0.y1 o ho k1 i h1 (by omega) k2
                omega
            · rcases f3 with f3 | ⟨o, ho, k1, k2, k3⟩
              · rcases h0.y2 with h | ⟨o, ho, k1, ⟨i, k2, k3, k4⟩, k5⟩
                · exact .inl (by show Y = 0; rw [f3, h])
                · exact .inr ⟨o, ho, k1, ⟨i, k2, by show (i : Int) < (n : Int) + 1; omega, k4⟩, by show Y = o.u; rw [f3, k5]⟩
              · exact .inr ⟨o, ho, k1, ⟨n, by show s0.f ≤ n; have := h0.rng; omega, by show (n : Int) < (n : Int) + 1; omega, k2⟩, k3⟩
        · rw [List.pairwise_append]
          refine ⟨hsrt.1, List.pairwise_singleton _ _, fun a ha b hb => ?_⟩
          simp at hb
          subst hb
          exact hlt a ha
        · by_cases he : i = n
          · subst he
            exact ⟨⟨s0.f, (i : Int) + 1, Y⟩, by simp, by show s0.f ≤ i; have := h0.rng; omega, by show (i : Int) < (i : Int) + 1; omega⟩
          · obtain ⟨s, hs, h1, h2⟩ := ih.cov i (by omega) hpi
            rcases List.mem_append.1 hs with hs | hs
            · exact ⟨s, by simp [hs], h1, h2⟩
            · simp at hs
              subst hs
              exact ⟨⟨s.f, (n : Int) + 1, Y⟩, by simp, h1, by show (i : Int) < (n : Int) + 1; omega⟩
        · have := ih.sum
          rw [List.map_append, List.sum_append] at this ⊢
          simp at this ⊢
          omega
    · have hpf : g.p n = false := by simpa using hp
      rw [if_neg hp]
      rw [hpf] at hcnt
      simp only [Bool.false_eq_true, if_false, Int.add_zero] at hcnt
      refine ⟨fun s hs => ?_, ih.srt, fun i hi hpi => ?_, by rw [ih.sum, hcnt], fun i hi h => ?_⟩
      · have h1 := ih.all s hs
        refine ⟨⟨h1.rng.1, h1.rng.2.1, by have := h1.rng.2.2; omega⟩, h1.hid, h1.lo, ?_, h1.y1, h1.y2⟩
        rcases h1.hi with h | h
        · refine .inr ?_
          rw [h, Int.toNat_natCast]; exact hpf
        · exact .inr h
      · have he : i ≠ n := fun e => by rw [e, hpf] at hpi; cases hpi
        exact ih.cov i (by omega) hpi
      · have : i = n := by omega
        subst this
        rw [hpf] at h; cases h
theorem runs_cl (g : Rg) : Runs g g.r.words.length (clF g) := runs_ex g _
/-- What is hidden less lies within. -/
theorem runs_in {g g' : Rg} {n : Nat} {L L' : List Sh} (h : Runs g n L) (h' : Runs g' n L') (hp : ∀ i, i < n → g'.p i = true → g.p i = true) : ∀ s' ∈ L', ∃ s ∈ L, s.f ≤ s'.f ∧ s'.t ≤ s.t := fun s' hs' => by
  have k := h'.all s' hs'
  obtain ⟨r1, r2, r3⟩ := k.rng
  have hp' : ∀ i : Nat, s'.f ≤ i → (i : Int) < s'.t → g.p i = true := fun i h1 h2 => hp i (by omega) (k.hid i h1 h2)
  obtain ⟨s, hs, c1, c2⟩ := h.cov s'.f.toNat (by omega) (hp' _ (by omega) (by omega))
  have q := h.all s hs
  obtain ⟨q1, q2, q3⟩ := q.rng
  refine ⟨s, hs, by omega, ?_⟩
  rcases q.hi with e | e
  · omega
  · refine Classical.byContradiction fun hlt => ?_
    have := hp' s.t.toNat (by omega) (by omega)
    rw [e] at this; cases this
theorem runs_sum {g g' : Rg} {n : Nat} {L L' : List Sh} (h : Runs g n L) (h' : Runs g' n L') (hp : ∀ i, i < n → g'.p i = true → g.p i = true) : (L'.map fun s => s.t - s.f).sum ≤ (L.map fun s => s.t - s.f).sum := by
  rw [h.sum, h'.sum]
  have : (List.range n).countP g'.p ≤ (List.range n).countP g.p := List.countP_mono_left fun i hi => hp i (List.mem_range.1 hi)
  omega
end Go.Proofs.Ytpcpjmplgladmaa

namespace Go.Proofs.Ytpcpjmplgladmaa
open Go.Pal
set_option maxRecDepth 100000
def hidN (l : List Sh) : Int := (l.map fun s => s.t - s.f).sum
structure ShB (l : List Sh) : Prop where
  n : l.length ≤ 1000
  s : ∀ s ∈ l, 0 ≤ s.f ∧ s.f ≤ s.t ∧ s.t ≤ 1000
theorem hidN_bd : ∀ {l : List Sh}, (∀ s ∈ l, 0 ≤ s.f ∧ s.f ≤ s.t ∧ s.t ≤ 1000) → 0 ≤ hidN l ∧ hidN l ≤ 1000 * (l.length : Int)
  | [], _ => by simp [hidN]
  | q :: t, h => by
    have h1 := hidN_bd (l := t) fun s hs => h s (by simp [hs])
    have h2 := h q (by simp)
    simp only [hidN, List.map_cons, List.sum_cons, List.length_cons] at h1 ⊢
    omega
theorem hidden26 : Sound Try.prog 26 id (gsca (args1 (slRd shE) ShB) fun l v => v = I (hidN l)) := by
  refine comp26.gsca (Tab.nil _) (fun args G s h => ?_) (fun args G l h => ?_)
  · obtain ⟨v, rfl, _⟩ := h; simp
  · obtain ⟨v, rfl, ⟨a, n, c, rfl, hl, hn⟩, hb⟩ := h
    have hlen := hl.len
    have hbn := hb.n
    (conv => whnf)
    refine LoopP.of { α := Nat, fr := fun i => [(0, .v (.slice a n c)), (3, .v (I (hidN (l.take i)))), (4, .v (I i))], H := fun _ => [], ok := fun i _ => i ≤ l.length, m := fun i => l.length - i }
      0 (HeadP.of [] ⟨rfl, rfl, rfl, trivial⟩ trivial) (Nat.zero_le _) (fun _ => ⟨rfl, rfl⟩) (fun (i : Nat) G1 hg1 hx => W.mk ?_)
    have hi : i ≤ l.length := hx
    dsimp only
    (conv => whnf)
    refine IteP.mk (fun hlt => W.mk ?_) (fun hge => W.mk ?_) <;> (conv => whnf)
    · have hlt : i < l.length := by omega
      have hc := (SlR.grow (G := G) (G' := G1) (fun _ _ h => h) hl hg1).el hlt
      have htk := take_snoc (List.getElem?_eq_getElem hlt)
      have hsb := hb.s _ (List.getElem_mem hlt)
      have hbd := hidN_bd (l := l.take i) fun s hs => hb.s s (List.mem_of_mem_take hs)
      have hlt2 : ((l.take i).length : Int) ≤ 1000 := by simp; omega
      generalize l[i] = s at hc htk hsb
      obtain ⟨f, t, y⟩ := s
      dsimp only at hsb
      have hc : CellsAt G1 (ab a) (ao a + i * 3) [I f, I t, I y] := hc
      have hsum : hidN (l.take (i + 1)) = hidN (l.take i) + (t - f) := by rw [htk, hidN, List.map_append, List.sum_append]; simp [hidN]
      generalize hidN (l.take i) = N at hbd hsum
      repeat' (first | (refine OblP.mk ?_ (W.mk ?_); (first | trivial | omega | (simp only [inR]; omega) | exact Nat.le_of_ble_eq_true (by rfl) | exact SlR.some (by assumption) (by omega)); (conv => whnf)) | (first | (refine RdP.at (by assumption) (by rfl) (W.mk ?_); (conv => whnf)) | (refine RdP.sub (by assumption) (by rfl) (W.mk ?_); (conv => whnf)) | (refine RdP.sub2 (by assumption) (by rfl) (W.mk ?_); (conv => whnf)) | (refine RdP.sub3 (by assumption) (by rfl) (W.mk ?_); (conv => whnf))))
      refine RoundP.of (i + 1) (HeadP.of [] ⟨rfl, by rw [hsum]; rfl, rfl, trivial⟩ trivial) hlt (by simp only; omega)
    · have : i = l.length := by omega
      subst this
      rw [List.take_length]
      exact FinP.mk rfl
def inR2 (a b : List Sh) : Bool := a.all fun s => b.any fun t => decide (t.f ≤ s.f) && decide (s.t ≤ t.t)
theorem within25 : Sound Try.prog 25 id (gsca (args2 (slRd shE) (slRd shE) fun _ _ => True) fun p v => v = .bool (inR2 p.1 p.2)) := by
  refine comp25.gsca (Tab.nil _) (fun args G s h => ?_) (fun args G p h => ?_)
  · obtain ⟨v, w, rfl, _⟩ := h; simp
  · obtain ⟨l, l'⟩ := p
    obtain ⟨u, v, rfl, ⟨a, n, c, rfl, hl, hn⟩, ⟨a', n', c', rfl, hl', hn'⟩, _⟩ := h
    dsimp only at hl hl'
    have hlen := hl.len
    have hlen' := hl'.len
    have hall : inR2 l l' = l.all fun s => l'.any fun t => decide (t.f ≤ s.f) && decide (s.t ≤ t.t) := rfl
    dsimp only
    (conv => whnf)
    refine LoopP.of { α := Nat, fr := fun i => [(0, .v (.slice a n c)), (1, .v (.slice a' n' c')), (5, .v (I i))], H := fun _ => [], ok := fun i _ => i ≤ l.length ∧ inR2 (l.drop i) l' = inR2 l l', m := fun i => l.length - i }
      0 (HeadP.of [] ⟨rfl, rfl, rfl, trivial⟩ trivial) ⟨Nat.zero_le _, rfl⟩ (fun _ => ⟨rfl, rfl⟩) (fun (i : Nat) G1 hg1 hx => W.mk ?_)
    obtain ⟨hi, hx⟩ := hx
    dsimp only
    (conv => whnf)
    refine IteP.mk (fun hlt => W.mk ?_) (fun hge => W.mk ?_) <;> (conv => whnf)
    · have hlt : i < l.length := by omega
      have hc := (SlR.grow (G := G) (G' := G1) (fun _ _ h => h) hl hg1).el hlt
      rw [List.drop_eq_getElem_cons hlt] at hx
      generalize l[i] = s at hc hx
      obtain ⟨f, t, y⟩ := s
      have hx1 : (l'.any (fun q => decide (q.f ≤ f) && decide (t ≤ q.t)) && inR2 (l.drop (i + 1)) l') = inR2 l l' := hx
      refine LoopP.of { α := Nat × Bool, fr := fun y => [(0, .v (.slice a n c)), (1, .v (.slice a' n' c')), (5, .v (I i)), (6, .v (.bool y.2)), (7, .v (I y.1))], H := fun _ => [], ok := fun y _ => y.1 ≤ l'.length ∧ (y.2 || (l'.drop y.1).any (fun q => decide (q.f ≤ f) && decide (t ≤ q.t))) = l'.any (fun q => decide (q.f ≤ f) && decide (t ≤ q.t)), m := fun y => l'.length - y.1 }
        (0, false) (HeadP.of [] ⟨rfl, rfl, rfl, rfl, rfl, trivial⟩ trivial) ⟨Nat.zero_le _, rfl⟩ (fun _ => ⟨rfl, rfl⟩) (fun yy G2 hg2 hx2 => W.mk ?_)
      obtain ⟨k, b⟩ := yy
      obtain ⟨hk, hb⟩ := hx2
      dsimp only at hk hb
      have hc1 := hc.grow hg2
      have hc1 : CellsAt G2 (ab a) (ao a + i * 3) [I f, I t, I y] := hc1
      cases b with
      | true =>
        dsimp only
        (conv => whnf)
        refine IteP.mk (fun hlt2 => W.mk ?_) (fun hge2 => W.mk ?_) <;> (conv => whnf)
        · repeat' (first | (refine OblP.mk ?_ (W.mk ?_); (first | trivial | omega | (simp only [inR]; omega) | exact Nat.le_of_ble_eq_true (by rfl) | exact SlR.some (by assumption) (by omega)); (conv => whnf)) | (first | (refine RdP.at (by assumption) (by rfl) (W.mk ?_); (conv => whnf)) | (refine RdP.sub (by assumption) (by rfl) (W.mk ?_); (conv => whnf)) | (refine RdP.sub2 (by assumption) (by rfl) (W.mk ?_); (conv => whnf)) | (refine RdP.sub3 (by assumption) (by rfl) (W.mk ?_); (conv => whnf))))
          exact RoundP.of (k + 1, true) (HeadP.of [] ⟨rfl, rfl, rfl, rfl, rfl, trivial⟩ trivial) ⟨by show k + 1 ≤ l'.length; omega, by rw [← hb]; rfl⟩ (by simp only; omega)
        · repeat' (first | (refine OblP.mk ?_ (W.mk ?_); (first | trivial | omega | (simp only [inR]; omega) | exact Nat.le_of_ble_eq_true (by rfl) | exact SlR.some (by assumption) (by omega)); (conv => whnf)) | (first | (refine RdP.at (by assumption) (by rfl) (W.mk ?_); (conv => whnf)) | (refine RdP.sub (by assumption) (by rfl) (W.mk ?_); (conv => whnf)) | (refine RdP.sub2 (by assumption) (by rfl) (W.mk ?_); (conv => whnf)) | (refine RdP.sub3 (by assumption) (by rfl) (W.mk ?_); (conv => whnf))))
          have hb : true = l'.any (fun q => decide (q.f ≤ f) && decide (t ≤ q.t)) := hb
          rw [← hb, Bool.true_and] at hx1
          exact RoundP.of (i + 1) (HeadP.of [] ⟨rfl, rfl, rfl, trivial⟩ trivial) ⟨hlt, hx1⟩ (by simp only; omega)
      | false =>
        dsimp only
        (conv => whnf)
        refine IteP.mk (fun hlt2 => W.mk ?_) (fun hge2 => W.mk ?_) <;> (conv => whnf)
        · have hlt2 : k < l'.length := by omega
          have hc2 := (SlR.grow (G := G) (G' := G2) (fun _ _ h => h) hl' (hg1.trans hg2)).el hlt2
          rw [List.drop_eq_getElem_cons hlt2, List.any_cons, Bool.false_or] at hb
          generalize l'[k] = q at hc2 hb
          obtain ⟨f2, t2, y2⟩ := q
          dsimp only at hb
          repeat' (first | (refine OblP.mk ?_ (W.mk ?_); (first | trivial | omega | (simp only [inR]; omega) | exact Nat.le_of_ble_eq_true (by rfl) | exact SlR.some (by assumption) (by omega)); (conv => whnf)) | (first | (refine RdP.at (by assumption) (by rfl) (W.mk ?_); (conv => whnf)) | (refine RdP.sub (by assumption) (by rfl) (W.mk ?_); (conv => whnf)) | (refine RdP.sub2 (by assumption) (by rfl) (W.mk ?_); (conv => whnf)) | (refine RdP.sub3 (by assumption) (by rfl) (W.mk ?_); (conv => whnf))))
          refine IteP.mk (fun h5 => W.mk ?_) (fun h5 => W.mk ?_) <;> (conv => whnf)
          · have h5 : f2 ≤ f := h5
            rw [decide_eq_true h5, Bool.true_and] at hb
            repeat' (first | (refine OblP.mk ?_ (W.mk ?_); (first | trivial | omega | (simp only [inR]; omega) | exact Nat.le_of_ble_eq_true (by rfl) | exact SlR.some (by assumption) (by omega)); (conv => whnf)) | (first | (refine RdP.at (by assumption) (by rfl) (W.mk ?_); (conv => whnf)) | (refine RdP.sub (by assumption) (by rfl) (W.mk ?_); (conv => whnf)) | (refine RdP.sub2 (by assumption) (by rfl) (W.mk ?_); (conv => whnf)) | (refine RdP.sub3 (by assumption) (by rfl) (W.mk ?_); (conv => whnf))))
            refine IteP.mk (fun h6 => W.mk ?_) (fun h6 => W.mk ?_) <;> (conv => whnf)
            · have h6 : t ≤ t2 := h6
              rw [decide_eq_true h6] at hb
              repeat' (first | (refine OblP.mk ?_ (W.mk ?_); (first | trivial | omega | (simp only [inR]; omega) | exact Nat.le_of_ble_eq_true (by rfl) | exact SlR.some (by assumption) (by omega)); (conv => whnf)) | (first | (refine RdP.at (by assumption) (by rfl) (W.mk ?_); (conv => whnf)) | (refine RdP.sub (by assumption) (by rfl) (W.mk ?_); (conv => whnf)) | (refine RdP.sub2 (by assumption) (by rfl) (W.mk ?_); (conv => whnf)) | (refine RdP.sub3 (by assumption) (by rfl) (W.mk ?_); (conv => whnf))))
              exact RoundP.of (k + 1, true) (HeadP.of [] ⟨rfl, rfl, rfl, rfl, rfl, trivial⟩ trivial) ⟨hlt2, hb⟩ (by simp only; omega)
            · have h6 : ¬ t ≤ t2 := h6
              rw [decide_eq_false h6] at hb
              repeat' (first | (refine OblP.mk ?_ (W.mk ?_); (first | trivial | omega | (simp only [inR]; omega) | exact Nat.le_of_ble_eq_true (by rfl) | exact SlR.some (by assumption) (by omega)); (conv => whnf)) | (first | (refine RdP.at (by assumption) (by rfl) (W.mk ?_); (conv => whnf)) | (refine RdP.sub (by assumption) (by rfl) (W.mk ?_); (conv => whnf)) | (refine RdP.sub2 (by assumption) (by rfl) (W.mk ?_); (conv => whnf)) | (refine RdP.sub3 (by assumption) (by rfl) (W.mk ?_); (conv => whnf))))
              exact RoundP.of (k + 1, false) (HeadP.of [] ⟨rfl, rfl, rfl, rfl, rfl, trivial⟩ trivial) ⟨hlt2, hb⟩ (by simp only; omega)
          · have h5 : ¬ f2 ≤ f := h5
            rw [decide_eq_false h5, Bool.false_and] at hb
            repeat' (first | (refine OblP.mk ?_ (W.mk ?_); (first | trivial | omega | (simp only [inR]; omega) | exact Nat.le_of_ble_eq_true (by rfl) | exact SlR.some (by assumption) (by omega)); (conv => whnf)) | (first | (refine RdP.at (by assumption) (by rfl) (W.mk ?_); (conv => whnf)) | (refine RdP.sub (by assumption) (by rfl) (W.mk ?_); (conv => whnf)) | (refine RdP.sub2 (by assumption) (by rfl) (W.mk ?_); (conv => whnf)) | (refine RdP.sub3 (by assumption) (by rfl) (W.mk ?_); (conv => whnf))))
            exact RoundP.of (k + 1, false) (HeadP.of [] ⟨rfl, rfl, rfl, rfl, rfl, trivial⟩ trivial) ⟨hlt2, hb⟩ (by simp only; omega)
        · rw [List.drop_of_length_le (by omega)] at hb
          have hb : false = l'.any (fun q => decide (q.f ≤ f) && decide (t ≤ q.t)) := hb
          rw [← hb, Bool.false_and] at hx1
          refine FinP.mk ?_
          rw [← hx1]; rfl
    · rw [List.drop_of_length_le (by omega)] at hx
      refine FinP.mk ?_
      rw [← hx]; rfl
end Go.Proofs.Ytpcpjmplgladmaa

/- Layer 9: the law VeilLater. -/
  namespace Go.Proofs.Ytpcpjmplgladmaa
open Go.Pal Go.RowKit
set_option maxRecDepth 100000
/-- The kinds that one may read, with one more: those below one. -/
def mayK (x : Rx) (kd : Int) : Nat → List Int
  | 0 => []
  | k + 1 => if x.may.contains (k : Int) || decide ((k : Int) = kd % 8) then mayK x kd k ++ [(k : Int)] else mayK x kd k
theorem mayK_len (x : Rx) (kd : Int) : ∀ k, (mayK x kd k).length ≤ k
  | 0 => by simp [mayK]
  | k + 1 => by
    have := mayK_len x kd k
    simp only [mayK]
    split
    · simp; omega
    · omega
theorem mayK_mem (x : Rx) (kd : Int) : ∀ k (y : Int), y ∈ mayK x kd k → 0 ≤ y ∧ y < k
  | 0, y, h => by simp [mayK] at h
  | k + 1, y, h => by
    have ih := mayK_mem x kd k y
    simp only [mayK] at h
    split at h
    · rcases List.mem_append.1 h with h | h
      · have := ih h; omega
      · simp at h; omega
    · have := ih h; omega
theorem mayK_has (x : Rx) (kd : Int) : ∀ (k j : Nat), j < k → x.may.contains (j : Int) = true → (mayK x kd k).contains (j : Int) = true
  | 0, j, h, _ => by omega
  | k + 1, j, h, hm => by
    simp only [mayK]
    by_cases he : j = k
    · subst he
      rw [hm, Bool.true_or, if_pos rfl]
      simp
    · have ih := mayK_has x kd k j (by omega) hm
      split
      · simp only [List.contains_eq_mem, decide_eq_true_eq, List.mem_append] at ih ⊢
        exact .inl ih
      · exact ih
theorem mayK_srt (x : Rx) (kd : Int) : ∀ k, (mayK x kd k).Pairwise (· < ·)
  | 0 => List.Pairwise.nil
  | k + 1 => by
    simp only [mayK]
    split
    · rw [List.pairwise_append]
      exact ⟨mayK_srt x kd k, List.pairwise_singleton _ _, fun a ha b hb => by simp at hb; have := mayK_mem x kd k a ha; omega⟩
    · exact mayK_srt x kd k
theorem ris_of {most : Int} {l : List Int} (h : l.Pairwise (· < ·)) (hm : ∀ y ∈ l, 0 ≤ y ∧ y ≤ most) : risM most l = true := by
  refine risM_true fun i hi => ?_
  have h1 := hm _ (List.getElem_mem hi)
  simp only [risAt, inF, gd0 hi, Bool.and_eq_true, Bool.or_eq_true, decide_eq_true_eq]
  refine ⟨h1, ?_⟩
  by_cases h0 : i = 0
  · exact .inl h0
  · refine .inr ?_
    have hi1 : i - 1 < l.length := by omega
    rw [gd0 hi1]
    exact List.pairwise_iff_getElem.1 h (i - 1) i hi1 hi (by omega)
theorem hid_mono {r : Rp} {x x' : Rx} (h : ∀ o ∈ r.orders, holdsF o x' = true → holdsF o x = true) (i : Int) (hp : hidF r x' i = true) : hidF r x i = true := by
  simp only [hidF, List.any_eq_true, hidO, Bool.and_eq_true] at hp ⊢
  obtain ⟨o, ho, h1, h2⟩ := hp
  exact ⟨o, ho, h o ho h1, h2⟩
theorem cl_shb {r : Rp} (hf : Fine r) (x : Rx) : ShB (clF (rgOf r x)) := by
  have h := runs_cl (rgOf r x)
  have hwl : (rgOf r x).r.words.length ≤ 60 := hf.wl
  refine ⟨by have := clK_len (rgOf r x) (rgOf r x).r.words.length; show (clK _ _).length ≤ 1000; omega, fun s hs => ?_⟩
  have := (h.all s hs).rng
  omega
theorem cl_in {r : Rp} {x x' : Rx} (h : ∀ o ∈ r.orders, holdsF o x' = true → holdsF o x = true) : inR2 (clF (rgOf r x')) (clF (rgOf r x)) = true ∧ hidN (clF (rgOf r x')) ≤ hidN (clF (rgOf r x)) := by
  have k1 := runs_cl (rgOf r x)
  have k2 := runs_cl (rgOf r x')
  have hp : ∀ i, i < r.words.length → (rgOf r x').p i = true → (rgOf r x).p i = true := fun i _ => hid_mono h i
  refine ⟨?_, runs_sum k1 k2 hp⟩
  simp only [inR2, List.all_eq_true, List.any_eq_true, Bool.and_eq_true, decide_eq_true_eq]
  exact runs_in k1 k2 hp
theorem law5 : Sound Try.prog 5 id (gsca (fun args G (p : Rp × Rx × Int × Int) => ∃ u v, args = [u, v, U16 p.2.2.1, U p.2.2.2] ∧ RuV G u p.1 ∧ XuV G v p.2.1 ∧ (0 ≤ p.2.2.1 ∧ p.2.2.1 ≤ 65535) ∧ 0 ≤ p.2.2.2 ∧ p.2.2.2 ≤ 255) fun _ v => v = .bool true) := by
  refine comp5.gsca (Tab.cons 25 _ within25 body25 (Tab.cons 26 _ hidden26 body26 tabLw)) (fun args G s h => ?_) (fun args G p h => ?_)
  · obtain ⟨u, v, rfl, _⟩ := h; simp
  · obtain ⟨r, x, ys, kd⟩ := p
    obtain ⟨u, v, rfl, hr, hx, ⟨hy0, hy1⟩, hk0, hk1⟩ := h
    dsimp only at hr hx hy0 hy1 hk0 hk1
    obtain ⟨rw_, ro, rfl, ⟨wa, wn, wc, rfl, hwu1, hwu2⟩, ⟨oa, on, oc, rfl, hou1, hou2⟩⟩ := id hr
    obtain ⟨m, rfl, ⟨ma, mn, mc, rfl, hmu1, hmu2⟩⟩ := id hx
    try dsimp only
    (conv => whnf)
    refine ScaP.g (ok2 ruRd xuRd fun _ _ => True) (x := (r, x)) ⟨_, _, rfl, hr, hx, trivial⟩ (fun v hv => W.mk ?_)
    subst hv
    dsimp only
    (conv => whnf)
    refine ForkP.mk (fun hfw => W.mk ?_) (fun hfw => W.mk ?_) <;> (conv => whnf)
    rotate_left
    · refine ScaP.g okU (x := ()) rfl (fun v hv => W.mk ?_)
      subst hv
      (conv => whnf)
      refine ForkP.mk (fun _ => W.mk ?_) (fun h => by cases h)
      (conv => whnf)
      exact FinP.mk rfl
    rw [Bool.and_eq_true, decide_eq_true_eq] at hfw
    obtain ⟨hfw, h0⟩ := hfw
    have hf := few_of hfw
    have hrv := hr.v hf
    have hxv := hx.v hf
    obtain ⟨hfine, hrx⟩ := faultX_fine h0
    have hf0 : faultR r = 0 := by
      unfold faultX at h0
      split at h0
      · assumption
      · rename_i h; exact absurd h0 h
    have hrx2 : inF x.year 0 9999 = true ∧ risM 7 x.may = true := by
      have := hrx
      simpa [rightX, Bool.and_eq_true] using this
    have hyr : 0 ≤ x.year ∧ x.year ≤ 9999 := by simpa [inF] using hrx2.1
    obtain ⟨x1, hx1⟩ : ∃ x1 : Rx, x1 = ⟨min 9999 (x.year + ys), x.may⟩ := ⟨_, rfl⟩
    have hx1y : x1.year = min 9999 (x.year + ys) := by rw [hx1]
    have hx1m : x1.may = x.may := by rw [hx1]
    have h01 : faultX r x1 = 0 := by
      rw [faultX, if_pos hf0, if_pos]
      simp only [rightX, hx1m, hrx2.2, Bool.and_true, inF, decide_eq_true_eq, hx1y]
      omega
    obtain ⟨x2, hx2⟩ : ∃ x2 : Rx, x2 = ⟨x.year, mayK x kd 8⟩ := ⟨_, rfl⟩
    have hx2y : x2.year = x.year := by rw [hx2]
    have hx2m : x2.may = mayK x kd 8 := by rw [hx2]
    have h02 : faultX r x2 = 0 := by
      rw [faultX, if_pos hf0, if_pos]
      simp only [rightX, hx2m, hx2y, hrx2.1, Bool.true_and]
      exact ris_of (mayK_srt x kd 8) fun y hy => by have := mayK_mem x kd 8 y hy; omega
    have hm1 := cl_in (r := r) (x := x) (x' := x1) fun o _ ho => by
      simp only [holdsF, hx1m, hx1y, Bool.and_eq_true, decide_eq_true_eq] at ho ⊢
      exact ⟨by omega, ho.2⟩
    have hm2 := cl_in (r := r) (x := x) (x' := x2) fun o hom ho => by
      simp only [holdsF, hx2m, hx2y, Bool.and_eq_true, Bool.not_eq_true'] at ho ⊢
      refine ⟨ho.1, ?_⟩
      cases hc : x.may.contains o.k with
      | false => rfl
      | true =>
        have hb := hfine.o o hom
        have := mayK_has x kd 8 o.k.toNat (by omega) (by rw [show ((o.k.toNat : Nat) : Int) = o.k by omega]; exact hc)
        rw [show ((o.k.toNat : Nat) : Int) = o.k by omega, ho.2] at this
        cases this
    repeat' (first | (refine OblP.mk ?_ (W.mk ?_); (first | trivial | omega | (simp only [inR]; omega) | exact Nat.le_of_ble_eq_true (by rfl) | exact SlR.some (by assumption) (by omega)); (conv => whnf)) | (refine OblP.mk (by simp only [inR]; omega) (W.mk ?_); (conv => whnf)))
    refine LoopP.of { α := Nat × Nat × List Value, fr := fun y => [(3, .v (U kd)), (4, .c (.ptr 0 0)), (5, .c (.ptr 1 0)), (9, .c (.ptr 18 0)), (10, .c (.row 3 y.2.1)), (11, .v (I y.1))], H := fun y => [(0, .cells .anon [.val (.slice wa wn wc), .val (.slice oa on oc), .val (I r.cols)] 25), (1, .cells .anon [.val (I x.year), .val (.slice ma mn mc)] 28), (18, .cells .anon [.val (I (min 9999 (x.year + ys))), .val (.slice ma mn mc)] 28), (3, .row none y.2.1 y.2.2 3 1)], ok := fun y _ => y.1 ≤ 8 ∧ Row intE (mayK x kd y.1) y.2.1 y.2.2, m := fun y => 8 - y.1 }
      (0, 0, []) (HeadP.of [(3, none)] ⟨rfl, rfl, rfl, rfl, rfl, rfl, trivial⟩ ⟨rfl, rfl, rfl, rfl, trivial⟩) ⟨Nat.zero_le _, Row.nil⟩ (fun _ => ⟨rfl, rfl⟩) (fun y G1 hg1 hxx => W.mk ?_)
    obtain ⟨k, n, vs⟩ := y
    obtain ⟨hk, hrow⟩ := hxx
    dsimp only at hk hrow
    have hrn := hrow.n
    have hml := mayK_len x kd k
    have hrv := rpRd.grow hg1 hrv
    have hxv := rxRd.grow hg1 hxv
    dsimp only
    (conv => whnf)
    refine IteP.mk (fun hlt => W.mk ?_) (fun hge => W.mk ?_) <;> (conv => whnf)
    · have hsu : mayK x kd (k + 1) = if x.may.contains (k : Int) || decide ((k : Int) = kd % 8) then mayK x kd k ++ [(k : Int)] else mayK x kd k := rfl
      obtain ⟨_, e1, hmv⟩ := id hxv
      have e2 : SlV intE G1 (.slice ma mn mc) x.may := by
        have := congrArg (fun v => match v with | Value.agg a => a[1]? | _ => none) e1
        simp at this
        rw [this]; exact hmv
      refine ScaP.g (ok2 (slRd intE) intRd fun _ _ => True) (x := (x.may, (k : Int))) ⟨_, _, rfl, e2, rfl, trivial⟩ (fun v hv => W.mk ?_)
      subst hv
      dsimp only
      (conv => whnf)
      refine ForkP.mk (fun hq => W.mk ?_) (fun hq => W.mk ?_) <;> (conv => whnf)
      · rw [hq, Bool.true_or, if_pos rfl] at hsu
        repeat' (first | (refine OblP.mk rfl (W.mk ?_); (conv => whnf)) | (refine OblP.mk ?_ (W.mk ?_); (first | trivial | omega | (simp only [inR]; omega) | exact Nat.le_of_ble_eq_true (by rfl) | exact SlR.some (by assumption) (by omega)); (conv => whnf)) | (first | (refine RdP.at (by assumption) (by rfl) (W.mk ?_); (conv => whnf)) | (refine RdP.sub (by assumption) (by rfl) (W.mk ?_); (conv => whnf)) | (refine RdP.sub2 (by assumption) (by rfl) (W.mk ?_); (conv => whnf)) | (refine RdP.sub3 (by assumption) (by rfl) (W.mk ?_); (conv => whnf))))
        refine RoundP.of (k + 1, n + 1, vs ++ [I k]) (HeadP.of [(3, some 38)] ⟨rfl, rfl, rfl, rfl, rfl, rfl, trivial⟩ ⟨rfl, rfl, rfl, rfl, trivial⟩) ⟨by show k + 1 ≤ 8; omega, ?_⟩ (by simp only; omega)
        dsimp only
        rw [hsu]
        exact hrow.snoc (k : Int)
      · rw [hq, Bool.false_or] at hsu
        repeat' (first | (refine OblP.mk (by simp only [inR]; omega) (W.mk ?_); (conv => whnf)) | (refine OblP.mk ⟨by omega, by omega⟩ (W.mk ?_); (conv => whnf)))
        refine IteP.mk (fun hq2 => W.mk ?_) (fun hq2 => W.mk ?_) <;> (conv => whnf)
        · have hq2 : (k : Int) = kd % 8 := hq2
          rw [decide_eq_true hq2, if_pos rfl] at hsu
          repeat' (first | (refine OblP.mk rfl (W.mk ?_); (conv => whnf)) | (refine OblP.mk ?_ (W.mk ?_); (first | trivial | omega | (simp only [inR]; omega) | exact Nat.le_of_ble_eq_true (by rfl) | exact SlR.some (by assumption) (by omega)); (conv => whnf)) | (first | (refine RdP.at (by assumption) (by rfl) (W.mk ?_); (conv => whnf)) | (refine RdP.sub (by assumption) (by rfl) (W.mk ?_); (conv => whnf)) | (refine RdP.sub2 (by assumption) (by rfl) (W.mk ?_); (conv => whnf)) | (refine RdP.sub3 (by assumption) (by rfl) (W.mk ?_); (conv => whnf))))
          refine RoundP.of (k + 1, n + 1, vs ++ [I k]) (HeadP.of [(3, some 38)] ⟨rfl, rfl, rfl, rfl, rfl, rfl, trivial⟩ ⟨rfl, rfl, rfl, rfl, trivial⟩) ⟨by show k + 1 ≤ 8; omega, ?_⟩ (by simp only; omega)
          dsimp only
          rw [hsu]
          exact hrow.snoc (k : Int)
        · have hq2 : ¬ (k : Int) = kd % 8 := hq2
          rw [decide_eq_false hq2, if_neg (by simp)] at hsu
          repeat' (first | (refine OblP.mk rfl (W.mk ?_); (conv => whnf)) | (refine OblP.mk ?_ (W.mk ?_); (first | trivial | omega | (simp only [inR]; omega) | exact Nat.le_of_ble_eq_true (by rfl) | exact SlR.some (by assumption) (by omega)); (conv => whnf)) | (first | (refine RdP.at (by assumption) (by rfl) (W.mk ?_); (conv => whnf)) | (refine RdP.sub (by assumption) (by rfl) (W.mk ?_); (conv => whnf)) | (refine RdP.sub2 (by assumption) (by rfl) (W.mk ?_); (conv => whnf)) | (refine RdP.sub3 (by assumption) (by rfl) (W.mk ?_); (conv => whnf))))
          refine RoundP.of (k + 1, n, vs) (HeadP.of [] ⟨rfl, rfl, rfl, rfl, rfl, rfl, trivial⟩ ⟨rfl, rfl, rfl, rfl, trivial⟩) ⟨by show k + 1 ≤ 8; omega, ?_⟩ (by simp only; omega)
          dsimp only
          rw [hsu]
          exact hrow
    · have hke : k = 8 := by omega
      subst hke
      refine RelP.g (ok1 rpRd Repo) (x := r) ⟨_, rfl, hrv, hf.repo⟩ (Grow.refl _) (fun v G2 h2 q2 => W.mk ?_)
      obtain ⟨_, _, rfl, _⟩ := id q2
      have hrv := rpRd.grow h2 hrv
      have hxv := rxRd.grow h2 hxv
      (conv => whnf)
      refine RelP.g (ok1 rxRd fun x => x.may.length ≤ 1000) (x := x) ⟨_, rfl, hxv, by have := hf.ml; omega⟩ (Grow.refl _) (fun v G3 h3 q3 => W.mk ?_)
      obtain ⟨_, rfl, _⟩ := id q3
      have hrv := rpRd.grow h3 hrv
      have hxv := rxRd.grow h3 hxv
      (conv => whnf)
      refine RelP.g (ok2 rpRd rxRd fun _ _ => True) (x := (r, x)) ⟨_, _, rfl, (rpRd.grow h3 q2), q3, trivial⟩ (Grow.refl _) (fun v G4 h4 q4 => W.mk ?_)
      obtain ⟨w4, rfl, q4⟩ := q4
      dsimp only at q4 ⊢
      rw [if_pos h0] at q4
      obtain ⟨a4, n4, c4, rfl, _, _⟩ := id q4
      have hrv := rpRd.grow h4 hrv
      have hxv := rxRd.grow h4 hxv
      (conv => whnf)
      refine RelP.g (ok1 rpRd Repo) (x := r) ⟨_, rfl, hrv, hf.repo⟩ (Grow.refl _) (fun v G5 h5 q5 => W.mk ?_)
      obtain ⟨_, _, rfl, _⟩ := id q5
      have hrv := rpRd.grow h5 hrv
      have hxv := rxRd.grow h5 hxv
      (conv => whnf)
      have hxv1 : RxV G5 (.agg #[I (min 9999 (x.year + ys)), .slice ma mn mc]) x1 := by
        obtain ⟨_, e1, hmv⟩ := id hxv
        have := congrArg (fun v => match v with | Value.agg a => a[1]? | _ => none) e1
        simp at this
        exact ⟨_, by rw [hx1y], by rw [hx1m, this]; exact hmv⟩
      refine RelP.g (ok1 rxRd fun x => x.may.length ≤ 1000) (x := x1) ⟨_, rfl, hxv1, by have := hf.ml; show x1.may.length ≤ 1000; rw [hx1m]; omega⟩ (Grow.refl _) (fun v G6 h6 q6 => W.mk ?_)
      obtain ⟨_, rfl, _⟩ := id q6
      have hrv := rpRd.grow h6 hrv
      have hxv := rxRd.grow h6 hxv
      (conv => whnf)
      refine RelP.g (ok2 rpRd rxRd fun _ _ => True) (x := (r, x1)) ⟨_, _, rfl, (rpRd.grow h6 q5), q6, trivial⟩ (Grow.refl _) (fun v G7 h7 q7 => W.mk ?_)
      obtain ⟨w7, rfl, q7⟩ := q7
      dsimp only at q7 ⊢
      rw [if_pos h01] at q7
      obtain ⟨a7, n7, c7, rfl, _, _⟩ := id q7
      have hrv := rpRd.grow h7 hrv
      have hxv := rxRd.grow h7 hxv
      (conv => whnf)
      refine PubP.mk (fun a8 c8 G8 h8 p8 => W.mk ?_)
      have hmv8 : SlV intE G8 (.slice a8 n c8) (mayK x kd 8) := hrow.pub p8 (by omega)
      have hrv := rpRd.grow h8 hrv
      have hxv := rxRd.grow h8 hxv
      (conv => whnf)
      refine RelP.g (ok1 rpRd Repo) (x := r) ⟨_, rfl, hrv, hf.repo⟩ (Grow.refl _) (fun v G9 h9 q9 => W.mk ?_)
      obtain ⟨_, _, rfl, _⟩ := id q9
      have hrv := rpRd.grow h9 hrv
      have hxv := rxRd.grow h9 hxv
      (conv => whnf)
      have hxv2 : RxV G9 (.agg #[I x.year, .slice a8 n c8]) x2 := ⟨_, by rw [hx2y], by rw [hx2m]; exact hmv8.grow h9⟩
      refine RelP.g (ok2 rpRd rxRd fun _ _ => True) (x := (r, x2)) ⟨_, _, rfl, q9, hxv2, trivial⟩ (Grow.refl _) (fun v Ga ha qa => W.mk ?_)
      obtain ⟨wa2, rfl, qa⟩ := qa
      dsimp only at qa ⊢
      rw [if_pos h02] at qa
      obtain ⟨a9, n9, c9, rfl, _, _⟩ := id qa
      (conv => whnf)
      have qA : SlV shE Ga (.slice a4 n4 c4) (clF (rgOf r x)) := (((((q4.grow h5).grow h6).grow h7).grow h8).grow h9).grow ha
      have qB : SlV shE Ga (.slice a7 n7 c7) (clF (rgOf r x1)) := ((q7.grow h8).grow h9).grow ha
      refine IteP.mk (fun _ => W.mk ?_) (fun h => absurd h0 h)
      (conv => whnf)
      refine IteP.mk (fun _ => W.mk ?_) (fun h => absurd h01 h)
      (conv => whnf)
      refine IteP.mk (fun _ => W.mk ?_) (fun h => absurd h02 h)
      (conv => whnf)
      refine ScaP.g (ok2 (slRd shE) (slRd shE) fun _ _ => True) (x := (clF (rgOf r x1), clF (rgOf r x))) ⟨_, _, rfl, qB, qA, trivial⟩ (fun v hv => W.mk ?_)
      dsimp only at hv
      rw [hm1.1] at hv
      subst hv
      (conv => whnf)
      refine ForkP.mk (fun _ => W.mk ?_) (fun h => by cases h)
      (conv => whnf)
      refine ScaP.g (ok2 (slRd shE) (slRd shE) fun _ _ => True) (x := (clF (rgOf r x2), clF (rgOf r x))) ⟨_, _, rfl, qa, qA, trivial⟩ (fun v hv => W.mk ?_)
      dsimp only at hv
      rw [hm2.1] at hv
      subst hv
      (conv => whnf)
      refine ForkP.mk (fun _ => W.mk ?_) (fun h => by cases h)
      (conv => whnf)
      refine ScaP.g (ok1 (slRd shE) ShB) (x := clF (rgOf r x1)) ⟨_, rfl, qB, cl_shb hfine x1⟩ (fun v hv => W.mk ?_)
      subst hv
      (conv => whnf)
      refine ScaP.g (ok1 (slRd shE) ShB) (x := clF (rgOf r x)) ⟨_, rfl, qA, cl_shb hfine x⟩ (fun v hv => W.mk ?_)
      subst hv
      (conv => whnf)
      refine IteP.mk (fun _ => W.mk ?_) (fun h => absurd hm1.2 h)
      (conv => whnf)
      refine ScaP.g (ok1 (slRd shE) ShB) (x := clF (rgOf r x2)) ⟨_, rfl, qa, cl_shb hfine x2⟩ (fun v hv => W.mk ?_)
      subst hv
      (conv => whnf)
      refine ScaP.g (ok1 (slRd shE) ShB) (x := clF (rgOf r x)) ⟨_, rfl, qA, cl_shb hfine x⟩ (fun v hv => W.mk ?_)
      subst hv
      (conv => whnf)
      refine IteP.mk (fun _ => W.mk ?_) (fun h => absurd hm2.2 h)
      (conv => whnf)
      refine ScaP.g okU (x := ()) rfl (fun v hv => W.mk ?_)
      subst hv
      (conv => whnf)
      first | exact FinP.mk rfl | (refine ForkP.mk (fun _ => W.mk ?_) (fun h => by cases h); (conv => whnf); exact FinP.mk rfl)
end Go.Proofs.Ytpcpjmplgladmaa

/- Layer 9: the law VeilOpens. -/
 namespace Go.Proofs.Ytpcpjmplgladmaa
open Go.Pal Go.RowKit
set_option maxRecDepth 100000
set_option maxHeartbeats 1000000
def ovS (s q : Sh) : Bool := decide (q.f < s.t) && decide (s.f < q.t)
theorem run_year {r : Rp} {x : Rx} (hf : Fine r) (hx : rightX x = true) {s : Sh} (hs : s ∈ clF (rgOf r x)) : x.year < s.y ∧ s.y ≤ 9999 ∧ ∃ o ∈ r.orders, shutsF x o = true ∧ (∃ i : Nat, s.f ≤ i ∧ (i : Int) < s.t ∧ inF i o.f (o.t - 1) = true) ∧ s.y = o.u := by
  have h := (runs_cl (rgOf r x)).all s hs
  have hr := h.rng
  have hxy : 0 ≤ x.year := by
    simp only [rightX, inF, Bool.and_eq_true, decide_eq_true_eq] at hx
    exact hx.1.1
  have hp := h.hid s.f.toNat (by omega) (by omega)
  have hp : hidF r x (s.f.toNat : Nat) = true := hp
  simp only [hidF, List.any_eq_true, hidO, holdsF, Bool.and_eq_true, decide_eq_true_eq] at hp
  obtain ⟨o, ho, ⟨h1, h2⟩, h3⟩ := hp
  have hy := h.y1 o ho (by show (!x.may.contains o.k) = true; exact h2) s.f.toNat (by omega) (by omega) h3
  refine ⟨by omega, ?_, ?_⟩
  · rcases h.y2 with e | ⟨o', ho', _, _, e⟩
    · omega
    · have := hf.o o' ho'; omega
  · rcases h.y2 with e | e
    · omega
    · exact e
theorem law6 : Sound Try.prog 6 id (gsca (fun args G (p : Rp × Rx × Int × Int) => ∃ u v, args = [u, v, U p.2.2.1, U p.2.2.2] ∧ RuV G u p.1 ∧ XuV G v p.2.1 ∧ (0 ≤ p.2.2.1 ∧ p.2.2.1 ≤ 255) ∧ 0 ≤ p.2.2.2 ∧ p.2.2.2 ≤ 255) fun _ v => v = .bool true) := by
  refine comp6.gsca tabLw (fun args G s h => ?_) (fun args G p h => ?_)
  · obtain ⟨u, v, rfl, _⟩ := h; simp
  · obtain ⟨r, x, wh, ys⟩ := p
    obtain ⟨u, v, rfl, hr, hx, ⟨hw0, hw1⟩, hy0, hy1⟩ := h
    dsimp only at hr hx hw0 hw1 hy0 hy1
    obtain ⟨rw_, ro, rfl, ⟨wa, wn, wc, rfl, hwu1, hwu2⟩, ⟨oa, on, oc, rfl, hou1, hou2⟩⟩ := id hr
    obtain ⟨m, rfl, ⟨ma, mn, mc, rfl, hmu1, hmu2⟩⟩ := id hx
    try dsimp only
    (conv => whnf)
    refine ScaP.g (ok2 ruRd xuRd fun _ _ => True) (x := (r, x)) ⟨_, _, rfl, hr, hx, trivial⟩ (fun v hv => W.mk ?_)
    subst hv
    dsimp only
    (conv => whnf)
    refine ForkP.mk (fun hfw => W.mk ?_) (fun hfw => W.mk ?_) <;> (conv => whnf)
    rotate_left
    · refine ScaP.g okU (x := ()) rfl (fun v hv => W.mk ?_)
      subst hv
      (conv => whnf)
      refine ForkP.mk (fun _ => W.mk ?_) (fun h => by cases h)
      (conv => whnf)
      exact FinP.mk rfl
    rw [Bool.and_eq_true, decide_eq_true_eq] at hfw
    obtain ⟨hfw, h0⟩ := hfw
    have hf := few_of hfw
    have hrv := hr.v hf
    have hxv := hx.v hf
    obtain ⟨hfine, hrx⟩ := faultX_fine h0
    have hf0 : faultR r = 0 := by
      unfold faultX at h0
      split at h0
      · assumption
      · rename_i h; exact absurd h0 h
    have hrx2 : inF x.year 0 9999 = true ∧ risM 7 x.may = true := by
      have := hrx
      simpa [rightX, Bool.and_eq_true] using this
    have hyr : 0 ≤ x.year ∧ x.year ≤ 9999 := by simpa [inF] using hrx2.1
    have hwn := hwu1.len
    have hml : x.may.length ≤ 1000 := by have := hf.ml; omega
    refine RelP.g (ok1 rpRd Repo) (x := r) ⟨_, rfl, hrv, hf.repo⟩ (Grow.refl _) (fun v G1 h1 q1 => W.mk ?_)
    obtain ⟨_, _, rfl, _⟩ := id q1
    have hrv := rpRd.grow h1 hrv
    have hxv := rxRd.grow h1 hxv
    (conv => whnf)
    refine RelP.g (ok1 rxRd fun x => x.may.length ≤ 1000) (x := x) ⟨_, rfl, hxv, by have := hf.ml; omega⟩ (Grow.refl _) (fun v G2 h2 q2 => W.mk ?_)
    obtain ⟨_, rfl, _⟩ := id q2
    have hrv := rpRd.grow h2 hrv
    have hxv := rxRd.grow h2 hxv
    (conv => whnf)
    refine RelP.g (ok2 rpRd rxRd fun _ _ => True) (x := (r, x)) ⟨_, _, rfl, (rpRd.grow h2 q1), q2, trivial⟩ (Grow.refl _) (fun v G3 h3 q3 => W.mk ?_)
    obtain ⟨w3, rfl, q3⟩ := q3
    dsimp only at q3 ⊢
    rw [if_pos h0] at q3
    obtain ⟨a3, n3, c3, rfl, hl3, _⟩ := id q3
    have hn3 := hl3.len
    have hln := (cl_shb hfine x).n
    have hrv := rpRd.grow h3 hrv
    have hxv := rxRd.grow h3 hxv
    (conv => whnf)
    refine IteP.mk (fun _ => W.mk ?_) (fun h => absurd h0 h)
    (conv => whnf)
    refine IteP.mk (fun hz => W.mk ?_) (fun hz => W.mk ?_) <;> (conv => whnf)
    · refine ScaP.g okU (x := ()) rfl (fun v hv => W.mk ?_)
      subst hv
      (conv => whnf)
      first | exact FinP.mk rfl | (refine ForkP.mk (fun _ => W.mk ?_) (fun h => by cases h); (conv => whnf); exact FinP.mk rfl)
    have hz : 0 < n3 := by have hz : ¬ (n3 : Int) = 0 := hz; omega
    have hm0 := Int.emod_nonneg wh (show (n3 : Int) ≠ 0 by omega)
    have hm1 := Int.emod_lt_of_pos wh (show 0 < (n3 : Int) by omega)
    refine OblP.mk (by simp only [inR]; omega) (W.mk ?_)
    (conv => whnf)
    refine OblP.mk ⟨by omega, by omega⟩ (W.mk ?_)
    (conv => whnf)
    refine OblP.mk ⟨hm0, hm1⟩ (W.mk ?_)
    (conv => whnf)
    obtain ⟨k, hk⟩ : ∃ k : Nat, (k : Int) = wh % (n3 : Int) := ⟨(wh % (n3 : Int)).toNat, by omega⟩
    rw [← hk]
    have hkl : k < (clF (rgOf r x)).length := by omega
    have hc := hl3.el hkl
    have hsm := List.getElem_mem hkl
    generalize (clF (rgOf r x))[k] = s at hc hsm
    have hrn := ((runs_cl (rgOf r x)).all s hsm).rng
    have hrn : 0 ≤ s.f ∧ s.f < s.t ∧ s.t ≤ r.words.length := hrn
    obtain ⟨hsy1, hsy2, so, hso, hso1, ⟨si, hsi1, hsi2, hsi3⟩, hso2⟩ := run_year hfine hrx hsm
    have hsy : ∀ o ∈ r.orders, shutsF x o = true → ∀ i : Nat, s.f ≤ i → (i : Int) < s.t → inF i o.f (o.t - 1) = true → o.u ≤ s.y := ((runs_cl (rgOf r x)).all s hsm).y1
    obtain ⟨sf, st, sy⟩ := s
    dsimp only at hrn hsy1 hsy2 hsi1 hsi2 hso2 hsy
    have hc : CellsAt G3 (ab a3) (ao a3 + k * 3) [I sf, I st, I sy] := hc
    repeat' (first | (refine OblP.mk ⟨by omega, by omega⟩ (W.mk ?_); (conv => whnf)) | (refine OblP.mk ?_ (W.mk ?_); (first | trivial | omega | (simp only [inR]; omega) | exact Nat.le_of_ble_eq_true (by rfl) | exact SlR.some (by assumption) (by omega)); (conv => whnf)) | (first | (refine RdP.at (by assumption) (by rfl) (W.mk ?_); (conv => whnf)) | (refine RdP.sub (by assumption) (by rfl) (W.mk ?_); (conv => whnf)) | (refine RdP.sub2 (by assumption) (by rfl) (W.mk ?_); (conv => whnf)) | (refine RdP.sub3 (by assumption) (by rfl) (W.mk ?_); (conv => whnf))))
    refine IteP.mk (fun h => by exfalso; omega) (fun _ => W.mk ?_)
    (conv => whnf)
    refine IteP.mk (fun h => by exfalso; omega) (fun _ => W.mk ?_)
    (conv => whnf)
    refine IteP.mk (fun h => by exfalso; omega) (fun _ => W.mk ?_)
    (conv => whnf)
    refine IteP.mk (fun h => by exfalso; omega) (fun _ => W.mk ?_)
    (conv => whnf)
    refine IteP.mk (fun h => by exfalso; omega) (fun _ => W.mk ?_)
    (conv => whnf)
    obtain ⟨x1, hx1⟩ : ∃ x1 : Rx, x1 = ⟨sy - 1, x.may⟩ := ⟨_, rfl⟩
    have hx1y : x1.year = sy - 1 := by rw [hx1]
    have hx1m : x1.may = x.may := by rw [hx1]
    have h01 : faultX r x1 = 0 := by
      rw [faultX, if_pos hf0, if_pos]
      simp only [rightX, hx1m, hrx2.2, Bool.and_true, inF, decide_eq_true_eq, hx1y]
      omega
    obtain ⟨x2, hx2⟩ : ∃ x2 : Rx, x2 = ⟨min 9999 (sy + ys), x.may⟩ := ⟨_, rfl⟩
    have hx2y : x2.year = min 9999 (sy + ys) := by rw [hx2]
    have hx2m : x2.may = x.may := by rw [hx2]
    have h02 : faultX r x2 = 0 := by
      rw [faultX, if_pos hf0, if_pos]
      simp only [rightX, hx2m, hrx2.2, Bool.and_true, inF, decide_eq_true_eq, hx2y]
      omega
    have hA : (clF (rgOf r x1)).any (ovS ⟨sf, st, sy⟩) = true := by
      have hp : hidF r x1 si = true := by
        simp only [hidF, List.any_eq_true, hidO, holdsF, Bool.and_eq_true, decide_eq_true_eq]
        exact ⟨so, hso, ⟨by rw [hx1y, ← hso2]; omega, by rw [hx1m]; exact hso1⟩, hsi3⟩
      obtain ⟨q, hq, hq1, hq2⟩ := (runs_cl (rgOf r x1)).cov si (by show si < r.words.length; omega) hp
      rw [List.any_eq_true]
      refine ⟨q, hq, ?_⟩
      simp only [ovS, Bool.and_eq_true, decide_eq_true_eq]
      exact ⟨by show q.f < st; omega, by show sf < q.t; omega⟩
    have hB : ∀ q ∈ clF (rgOf r x2), ovS ⟨sf, st, sy⟩ q = false := fun q hq => by
      cases ho : ovS ⟨sf, st, sy⟩ q with
      | false => rfl
      | true =>
        simp only [ovS, Bool.and_eq_true, decide_eq_true_eq] at ho
        have o1 : q.f < st := ho.1
        have o2 : sf < q.t := ho.2
        have hqr := (runs_cl (rgOf r x2)).all q hq
        have hr1 := hqr.rng
        obtain ⟨j, hj⟩ : ∃ j : Nat, (j : Int) = max q.f sf := ⟨(max q.f sf).toNat, by omega⟩
        have hp := hqr.hid j (by omega) (by omega)
        have hp : hidF r x2 j = true := hp
        simp only [hidF, List.any_eq_true, hidO, holdsF, Bool.and_eq_true, decide_eq_true_eq, hx2y, hx2m] at hp
        obtain ⟨o, ho, ⟨k1, k2⟩, k3⟩ := hp
        have := hsy o ho k2 j (by omega) (by omega) k3
        omega
    refine RelP.g (ok1 rpRd Repo) (x := r) ⟨_, rfl, hrv, hf.repo⟩ (Grow.refl _) (fun v G4 h4 q4 => W.mk ?_)
    obtain ⟨_, _, rfl, _⟩ := id q4
    have hrv := rpRd.grow h4 hrv
    have hxv := rxRd.grow h4 hxv
    (conv => whnf)
    repeat' (first | (refine OblP.mk ?_ (W.mk ?_); (first | trivial | omega | (simp only [inR]; omega) | exact Nat.le_of_ble_eq_true (by rfl) | exact SlR.some (by assumption) (by omega)); (conv => whnf)) | (refine OblP.mk (by simp only [inR]; omega) (W.mk ?_); (conv => whnf)))
    have hmv : SlV intE G4 (.slice ma mn mc) x.may := by
      obtain ⟨_, e1, hmv⟩ := id hxv
      have := congrArg (fun v => match v with | Value.agg a => a[1]? | _ => none) e1
      simp at this
      rw [this]; exact hmv
    refine RelP.g (ok1 (slRd intE) fun l => l.length ≤ 1000) (x := x.may) ⟨_, rfl, hmv, hml⟩ (Grow.refl _) (fun v G5 h5 q5 => W.mk ?_)
    obtain ⟨a5, n5, c5, rfl, _, _⟩ := id q5
    have hrv := rpRd.grow h5 hrv
    have hxv := rxRd.grow h5 hxv
    (conv => whnf)
    have hxv1 : RxV G5 (.agg #[I (sy - 1), .slice a5 n5 c5]) x1 := ⟨_, by rw [hx1y], by rw [hx1m]; exact q5⟩
    refine RelP.g (ok2 rpRd rxRd fun _ _ => True) (x := (r, x1)) ⟨_, _, rfl, (rpRd.grow h5 q4), hxv1, trivial⟩ (Grow.refl _) (fun v G6 h6 q6 => W.mk ?_)
    obtain ⟨w6, rfl, q6⟩ := q6
    dsimp only at q6 ⊢
    rw [if_pos h01] at q6
    obtain ⟨a6, n6, c6, rfl, hl6, _⟩ := id q6
    have hn6 := hl6.len
    have hrv := rpRd.grow h6 hrv
    have hxv := rxRd.grow h6 hxv
    (conv => whnf)
    refine RelP.g (ok1 rpRd Repo) (x := r) ⟨_, rfl, hrv, hf.repo⟩ (Grow.refl _) (fun v G7 h7 q7 => W.mk ?_)
    obtain ⟨_, _, rfl, _⟩ := id q7
    have hrv := rpRd.grow h7 hrv
    have hxv := rxRd.grow h7 hxv
    (conv => whnf)
    repeat' (first | (refine OblP.mk ?_ (W.mk ?_); (first | trivial | omega | (simp only [inR]; omega) | exact Nat.le_of_ble_eq_true (by rfl) | exact SlR.some (by assumption) (by omega)); (conv => whnf)) | (refine OblP.mk (by simp only [inR]; omega) (W.mk ?_); (conv => whnf)))
    have hmv : SlV intE G7 (.slice ma mn mc) x.may := by
      obtain ⟨_, e1, hmv⟩ := id hxv
      have := congrArg (fun v => match v with | Value.agg a => a[1]? | _ => none) e1
      simp at this
      rw [this]; exact hmv
    refine RelP.g (ok1 (slRd intE) fun l => l.length ≤ 1000) (x := x.may) ⟨_, rfl, hmv, hml⟩ (Grow.refl _) (fun v G8 h8 q8 => W.mk ?_)
    obtain ⟨a8, n8, c8, rfl, _, _⟩ := id q8
    have hrv := rpRd.grow h8 hrv
    have hxv := rxRd.grow h8 hxv
    (conv => whnf)
    have hxv2 : RxV G8 (.agg #[I (min 9999 (sy + ys)), .slice a8 n8 c8]) x2 := ⟨_, by rw [hx2y], by rw [hx2m]; exact q8⟩
    refine RelP.g (ok2 rpRd rxRd fun _ _ => True) (x := (r, x2)) ⟨_, _, rfl, (rpRd.grow h8 q7), hxv2, trivial⟩ (Grow.refl _) (fun v G9 h9 q9 => W.mk ?_)
    obtain ⟨w9, rfl, q9⟩ := q9
    dsimp only at q9 ⊢
    rw [if_pos h02] at q9
    obtain ⟨a9, n9, c9, rfl, hl9, _⟩ := id q9
    have hn9 := hl9.len
    (conv => whnf)
    refine IteP.mk (fun _ => W.mk ?_) (fun h => absurd h01 h)
    (conv => whnf)
    refine IteP.mk (fun _ => W.mk ?_) (fun h => absurd h02 h)
    (conv => whnf)
    have hl6' : SlR shE.k shE.R G9 a6 n6 c6 (clF (rgOf r x1)) := SlR.grow (G := G6) (G' := G9) (fun _ _ h => h) hl6 ((h7.trans h8).trans h9)
    have hb6 := (cl_shb hfine x1).n
    have hb9 := (cl_shb hfine x2).n
    refine LoopP.of { α := Nat × Bool, fr := fun y => [(11, .c (.ptr 35 0)), (12, .v (.slice a6 n6 c6)), (14, .v (.slice a9 n9 c9)), (16, .v (.bool y.2)), (17, .v (I y.1))], H := fun _ => [(35, .cells .anon [.val (I sf), .val (I st), .val (I sy)] 55)], ok := fun y _ => y.1 ≤ n6 ∧ y.2 = ((clF (rgOf r x1)).take y.1).any (ovS ⟨sf, st, sy⟩), m := fun y => n6 - y.1 }
      (0, false) (HeadP.of [] ⟨rfl, rfl, rfl, rfl, rfl, trivial⟩ ⟨rfl, trivial⟩) ⟨Nat.zero_le _, rfl⟩ (fun _ => ⟨rfl, rfl⟩) (fun yy Ga ha hxx => W.mk ?_)
    obtain ⟨i, b⟩ := yy
    obtain ⟨hi, hb⟩ := hxx
    dsimp only at hi hb
    have snoc : ∀ (hlt : i < (clF (rgOf r x1)).length), ((clF (rgOf r x1)).take (i + 1)).any (ovS ⟨sf, st, sy⟩) = (b || ovS ⟨sf, st, sy⟩ (clF (rgOf r x1))[i]) := fun hlt => by
      rw [take_snoc (List.getElem?_eq_getElem hlt), List.any_append, hb]; simp
    cases b with
    | true =>
      dsimp only
      (conv => whnf)
      refine IteP.mk (fun hlt => W.mk ?_) (fun hge => W.mk ?_) <;> (conv => whnf)
      · have hlt : i < (clF (rgOf r x1)).length := by omega
        repeat' (first | (refine OblP.mk ?_ (W.mk ?_); (first | trivial | omega | (simp only [inR]; omega) | exact Nat.le_of_ble_eq_true (by rfl) | exact SlR.some (by assumption) (by omega)); (conv => whnf)) | (first | (refine RdP.at (by assumption) (by rfl) (W.mk ?_); (conv => whnf)) | (refine RdP.sub (by assumption) (by rfl) (W.mk ?_); (conv => whnf)) | (refine RdP.sub2 (by assumption) (by rfl) (W.mk ?_); (conv => whnf)) | (refine RdP.sub3 (by assumption) (by rfl) (W.mk ?_); (conv => whnf))))
        exact RoundP.of (i + 1, true) (HeadP.of [] ⟨rfl, rfl, rfl, rfl, rfl, trivial⟩ ⟨rfl, trivial⟩) ⟨by show i + 1 ≤ n6; omega, by rw [snoc hlt]; rfl⟩ (by simp only; omega)
      · refine LoopP.of { α := Nat, fr := fun y => [(11, .c (.ptr 35 0)), (14, .v (.slice a9 n9 c9)), (16, .v (.bool true)), (18, .v (I y))], H := fun _ => [(35, .cells .anon [.val (I sf), .val (I st), .val (I sy)] 55)], ok := fun y _ => y ≤ n9, m := fun y => n9 - y }
          0 (HeadP.of [] ⟨rfl, rfl, rfl, rfl, trivial⟩ ⟨rfl, trivial⟩) (Nat.zero_le _) (fun _ => ⟨rfl, rfl⟩) (fun (j : Nat) Gb hb2 hxx => W.mk ?_)
        have hj : j ≤ n9 := hxx
        dsimp only
        (conv => whnf)
        refine IteP.mk (fun hlt => W.mk ?_) (fun hge => W.mk ?_) <;> (conv => whnf)
        · have hlt : j < (clF (rgOf r x2)).length := by omega
          have hc := (SlR.grow (G := G9) (G' := Gb) (fun _ _ h => h) hl9 (ha.trans hb2)).el hlt
          have hov := hB _ (List.getElem_mem hlt)
          generalize (clF (rgOf r x2))[j] = q at hc hov
          obtain ⟨qf, qt, qy⟩ := q
          have hov : (decide (qf < st) && decide (sf < qt)) = false := hov
          repeat' (first | (refine OblP.mk ?_ (W.mk ?_); (first | trivial | omega | (simp only [inR]; omega) | exact Nat.le_of_ble_eq_true (by rfl) | exact SlR.some (by assumption) (by omega)); (conv => whnf)) | (first | (refine RdP.at (by assumption) (by rfl) (W.mk ?_); (conv => whnf)) | (refine RdP.sub (by assumption) (by rfl) (W.mk ?_); (conv => whnf)) | (refine RdP.sub2 (by assumption) (by rfl) (W.mk ?_); (conv => whnf)) | (refine RdP.sub3 (by assumption) (by rfl) (W.mk ?_); (conv => whnf))))
          refine IteP.mk (fun h5 => W.mk ?_) (fun h5 => W.mk ?_) <;> (conv => whnf)
          · have h5 : qf < st := h5
            rw [decide_eq_true h5, Bool.true_and] at hov
            repeat' (first | (refine OblP.mk ?_ (W.mk ?_); (first | trivial | omega | (simp only [inR]; omega) | exact Nat.le_of_ble_eq_true (by rfl) | exact SlR.some (by assumption) (by omega)); (conv => whnf)) | (first | (refine RdP.at (by assumption) (by rfl) (W.mk ?_); (conv => whnf)) | (refine RdP.sub (by assumption) (by rfl) (W.mk ?_); (conv => whnf)) | (refine RdP.sub2 (by assumption) (by rfl) (W.mk ?_); (conv => whnf)) | (refine RdP.sub3 (by assumption) (by rfl) (W.mk ?_); (conv => whnf))))
            refine IteP.mk (fun h6 => absurd h6 (by simpa using hov)) (fun _ => W.mk ?_)
            (conv => whnf)
            repeat' (first | (refine OblP.mk ?_ (W.mk ?_); (first | trivial | omega | (simp only [inR]; omega) | exact Nat.le_of_ble_eq_true (by rfl) | exact SlR.some (by assumption) (by omega)); (conv => whnf)) | (first | (refine RdP.at (by assumption) (by rfl) (W.mk ?_); (conv => whnf)) | (refine RdP.sub (by assumption) (by rfl) (W.mk ?_); (conv => whnf)) | (refine RdP.sub2 (by assumption) (by rfl) (W.mk ?_); (conv => whnf)) | (refine RdP.sub3 (by assumption) (by rfl) (W.mk ?_); (conv => whnf))))
            exact RoundP.of (j + 1) (HeadP.of [] ⟨rfl, rfl, rfl, rfl, trivial⟩ ⟨rfl, trivial⟩) (by show j + 1 ≤ n9; omega) (by simp only; omega)
          · repeat' (first | (refine OblP.mk ?_ (W.mk ?_); (first | trivial | omega | (simp only [inR]; omega) | exact Nat.le_of_ble_eq_true (by rfl) | exact SlR.some (by assumption) (by omega)); (conv => whnf)) | (first | (refine RdP.at (by assumption) (by rfl) (W.mk ?_); (conv => whnf)) | (refine RdP.sub (by assumption) (by rfl) (W.mk ?_); (conv => whnf)) | (refine RdP.sub2 (by assumption) (by rfl) (W.mk ?_); (conv => whnf)) | (refine RdP.sub3 (by assumption) (by rfl) (W.mk ?_); (conv => whnf))))
            exact RoundP.of (j + 1) (HeadP.of [] ⟨rfl, rfl, rfl, rfl, trivial⟩ ⟨rfl, trivial⟩) (by show j + 1 ≤ n9; omega) (by simp only; omega)
        · refine ScaP.g okU (x := ()) rfl (fun v hv => W.mk ?_)
          subst hv
          (conv => whnf)
          first | exact FinP.mk rfl | (refine ForkP.mk (fun _ => W.mk ?_) (fun h => by cases h); (conv => whnf); exact FinP.mk rfl)
    | false =>
      dsimp only
      (conv => whnf)
      refine IteP.mk (fun hlt => W.mk ?_) (fun hge => W.mk ?_) <;> (conv => whnf)
      · have hlt : i < (clF (rgOf r x1)).length := by omega
        have hsn := snoc hlt
        have hc := (SlR.grow (G := G9) (G' := Ga) (fun _ _ h => h) hl6' ha).el hlt
        generalize (clF (rgOf r x1))[i] = q at hc hsn
        obtain ⟨qf, qt, qy⟩ := q
        have hov : ovS ⟨sf, st, sy⟩ ⟨qf, qt, qy⟩ = (decide (qf < st) && decide (sf < qt)) := rfl
        rw [hov, Bool.false_or] at hsn
        repeat' (first | (refine OblP.mk ?_ (W.mk ?_); (first | trivial | omega | (simp only [inR]; omega) | exact Nat.le_of_ble_eq_true (by rfl) | exact SlR.some (by assumption) (by omega)); (conv => whnf)) | (first | (refine RdP.at (by assumption) (by rfl) (W.mk ?_); (conv => whnf)) | (refine RdP.sub (by assumption) (by rfl) (W.mk ?_); (conv => whnf)) | (refine RdP.sub2 (by assumption) (by rfl) (W.mk ?_); (conv => whnf)) | (refine RdP.sub3 (by assumption) (by rfl) (W.mk ?_); (conv => whnf))))
        refine IteP.mk (fun h5 => W.mk ?_) (fun h5 => W.mk ?_) <;> (conv => whnf)
        · have h5 : qf < st := h5
          rw [decide_eq_true h5, Bool.true_and] at hsn
          repeat' (first | (refine OblP.mk ?_ (W.mk ?_); (first | trivial | omega | (simp only [inR]; omega) | exact Nat.le_of_ble_eq_true (by rfl) | exact SlR.some (by assumption) (by omega)); (conv => whnf)) | (first | (refine RdP.at (by assumption) (by rfl) (W.mk ?_); (conv => whnf)) | (refine RdP.sub (by assumption) (by rfl) (W.mk ?_); (conv => whnf)) | (refine RdP.sub2 (by assumption) (by rfl) (W.mk ?_); (conv => whnf)) | (refine RdP.sub3 (by assumption) (by rfl) (W.mk ?_); (conv => whnf))))
          refine IteP.mk (fun h6 => W.mk ?_) (fun h6 => W.mk ?_) <;> (conv => whnf)
          · have h6 : sf < qt := h6
            rw [decide_eq_true h6] at hsn
            repeat' (first | (refine OblP.mk ?_ (W.mk ?_); (first | trivial | omega | (simp only [inR]; omega) | exact Nat.le_of_ble_eq_true (by rfl) | exact SlR.some (by assumption) (by omega)); (conv => whnf)) | (first | (refine RdP.at (by assumption) (by rfl) (W.mk ?_); (conv => whnf)) | (refine RdP.sub (by assumption) (by rfl) (W.mk ?_); (conv => whnf)) | (refine RdP.sub2 (by assumption) (by rfl) (W.mk ?_); (conv => whnf)) | (refine RdP.sub3 (by assumption) (by rfl) (W.mk ?_); (conv => whnf))))
            exact RoundP.of (i + 1, true) (HeadP.of [] ⟨rfl, rfl, rfl, rfl, rfl, trivial⟩ ⟨rfl, trivial⟩) ⟨by show i + 1 ≤ n6; omega, hsn.symm⟩ (by simp only; omega)
          · have h6 : ¬ sf < qt := h6
            rw [decide_eq_false h6] at hsn
            repeat' (first | (refine OblP.mk ?_ (W.mk ?_); (first | trivial | omega | (simp only [inR]; omega) | exact Nat.le_of_ble_eq_true (by rfl) | exact SlR.some (by assumption) (by omega)); (conv => whnf)) | (first | (refine RdP.at (by assumption) (by rfl) (W.mk ?_); (conv => whnf)) | (refine RdP.sub (by assumption) (by rfl) (W.mk ?_); (conv => whnf)) | (refine RdP.sub2 (by assumption) (by rfl) (W.mk ?_); (conv => whnf)) | (refine RdP.sub3 (by assumption) (by rfl) (W.mk ?_); (conv => whnf))))
            exact RoundP.of (i + 1, false) (HeadP.of [] ⟨rfl, rfl, rfl, rfl, rfl, trivial⟩ ⟨rfl, trivial⟩) ⟨by show i + 1 ≤ n6; omega, hsn.symm⟩ (by simp only; omega)
        · have h5 : ¬ qf < st := h5
          rw [decide_eq_false h5, Bool.false_and] at hsn
          repeat' (first | (refine OblP.mk ?_ (W.mk ?_); (first | trivial | omega | (simp only [inR]; omega) | exact Nat.le_of_ble_eq_true (by rfl) | exact SlR.some (by assumption) (by omega)); (conv => whnf)) | (first | (refine RdP.at (by assumption) (by rfl) (W.mk ?_); (conv => whnf)) | (refine RdP.sub (by assumption) (by rfl) (W.mk ?_); (conv => whnf)) | (refine RdP.sub2 (by assumption) (by rfl) (W.mk ?_); (conv => whnf)) | (refine RdP.sub3 (by assumption) (by rfl) (W.mk ?_); (conv => whnf))))
          exact RoundP.of (i + 1, false) (HeadP.of [] ⟨rfl, rfl, rfl, rfl, rfl, trivial⟩ ⟨rfl, trivial⟩) ⟨by show i + 1 ≤ n6; omega, hsn.symm⟩ (by simp only; omega)
      · have hie : i = (clF (rgOf r x1)).length := by omega
        rw [hie, List.take_length, hA] at hb
        cases hb
end Go.Proofs.Ytpcpjmplgladmaa
