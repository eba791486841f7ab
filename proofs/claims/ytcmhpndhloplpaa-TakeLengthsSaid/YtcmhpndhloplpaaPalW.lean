/- What is asked of code is enough. -/
import Derived.Test.YtcmhpndhloplpaaPalV
import Derived.RangeFuncIn
namespace Go.Pal
open Go.RowKit

section
variable {P : Program} {ds : List Deferred} {n : Nat} {rd : Option Nat} {nn : Nat}

theorem guardF_K {io : IOper} {σ : St} {f : Bool → Prop} (h : guardF io.guard σ.fr f) : guardK io σ f := h

theorem opF_sound (T : Tab P) {pb : List Nat} {e : Env} (he : e.Ok P) {ops : Array Oper} {o : Oper} {io : IOper} {b bd : Nat} {M0 : Nat → Prop} {E0 : Nat → Value} {σ : St} {a : Act} {W : World} {Q : Exit → Act → World → Prop} {K : St → Prop}
    (hs : SatE e ds n b M0 E0 σ a W) (hop : compOp P o.op = some io.op) (hgd : compGuard ops o = some io.guard) (hdst : o.dst = io.dst) (hok : dstOk n io.dst = true) (hh : io.hid = b) (hd : opF P T.get ⟨e.l, e.Y, pb⟩ bd io σ K) :
    if Region.wanted o (yielded ops a.tmps) then o.wpIn (FW rd) nn P a W (fun a' W' => ∃ σ', K σ' ∧ Grow σ.G σ'.G ∧ SatE e ds n (b + 1) M0 E0 σ' a' W') Q
    else (∀ f, o.about P W a.eval = some f → (FW rd).fn f) ∧ ∃ σ', K σ' ∧ Grow σ.G σ'.G ∧ SatE e ds n (b + 1) M0 E0 σ' (a.put o.dst undef) W := by
  have skip : ∀ dst, o.dst = dst → dstOk n dst = true → appK dst σ.fr σ.H K undefSV [] σ.G → ∃ σ', K σ' ∧ Grow σ.G σ'.G ∧ SatE e ds n (b + 1) M0 E0 σ' (a.put o.dst undef) W := fun dst hdst hok hk => by
    obtain ⟨r, G0, M, E, h0, h1, h2, h3, h4, h5, h6⟩ := hs.ex
    rw [appK_eq] at hk
    obtain ⟨sv, hu, G', E', q1, q3, q4, q5⟩ := h6.app (dst := dst) (v := undef) (K := fun sv hu G' => sv = undefSV ∧ hu = [] ∧ G' = σ.G) (hid := b) hok ⟨undefSV, [], σ.G, E, ⟨rfl, rfl, rfl⟩, rfl, trivial, Agree.refl _ _, h6.sim, fun h ob e => ⟨.inl (h6.mH h ob e).1, OB.ment_mono (fun _ h => .inl h) (h6.mH h ob e).2⟩⟩
    obtain ⟨rfl, rfl, rfl⟩ := q1
    rw [hdst]
    exact ⟨_, hk, Grow.refl _, SatE.of (mono_M rfl h1) (fun k hk => .inl (h2 k hk)) (fun k hk => (q3 k (h2 k hk)).trans (h3 k hk)) (q4 ▸ h4) h5 q5 h0⟩
  have plain : TF P T.get bd σ.G io σ K → if Region.wanted o (yielded ops a.tmps) then o.wpIn (FW rd) nn P a W (fun a' W' => ∃ σ', K σ' ∧ Grow σ.G σ'.G ∧ SatE e ds n (b + 1) M0 E0 σ' a' W') Q
      else (∀ f, o.about P W a.eval = some f → (FW rd).fn f) ∧ ∃ σ', K σ' ∧ Grow σ.G σ'.G ∧ SatE e ds n (b + 1) M0 E0 σ' (a.put o.dst undef) W := fun hd => by
    obtain ⟨r, G0, M, E, h0, h1, h2, h3, h4, h5, h6⟩ := hs.ex
    rw [TF_eq] at hd
    have hfresh : ¬ M io.hid := fun h => by have := h1 _ h; omega
    have key := TI_sound T (rd := rd) (nn := nn) (Q := Q) h6 hfresh (.inl hop) hgd hdst hok (Grow.refl _) hd
    have next : ∀ a' W', (∃ σ' E', K σ' ∧ Grow σ.G σ'.G ∧ Agree M E E' ∧ σ'.fr POS = σ.fr POS ∧ Sat r G0 n (fun k => M k ∨ k = io.hid) E' σ' a' W') → ∃ σ', K σ' ∧ Grow σ.G σ'.G ∧ SatE e ds n (b + 1) M0 E0 σ' a' W' := by
      rintro a' W' ⟨σ', E', q1, q2, q3, q4, q5⟩
      exact ⟨σ', q1, q2, SatE.of (mono_M hh h1) (fun k hk => .inl (h2 k hk)) (fun k hk => (q3 k (h2 k hk)).trans (h3 k hk)) (q4 ▸ h4) (h5.trans q2) q5 h0⟩
    split
    · rename_i hw
      rw [if_pos hw] at key
      exact Oper.wpIn_mono next key
    · rename_i hw
      rw [if_neg hw] at key
      exact ⟨key.1, next _ _ key.2⟩
  obtain ⟨dst, op, g, hid, al, early, deps, lc⟩ := io
  cases op
  case callv x' ys =>
    obtain ⟨x, args, ts, hop1, hx, hys⟩ := compOp_callv hop
    obtain ⟨r, G0, M, E, h0, h1, h2, h3, h4, h5, h6⟩ := hs.ex
    obtain ⟨fr, H, G⟩ := σ
    simp only [opF] at hd
    have hg := guard_sound (io := ⟨dst, .callv x' ys, g, hid, al, early, deps, lc⟩) h6 hgd (guardF_K (io := ⟨_, _, _, _, _, _, _, _⟩) hd)
    generalize Region.wanted o (yielded ops a.tmps) = run at hg
    cases run with
    | false => exact ⟨fun _ _ => trivial, skip dst hdst hok hg⟩
    | true =>
      rw [if_pos rfl]
      simp only at hg
      split at hg
      case h_2 => exact hg.elim
      rename_i vs hvs
      split at hg
      case h_2 => exact hg.elim
      rename_i v ex
      have rx := opd_rel h6.fr hx
      rw [ex] at rx
      have rx : a.eval x = v := rx
      have hargs := opds_rel h6.fr (fun h ob v e e' => h6.sim.name e e') hys hvs
      rcases hg with ⟨s, ⟨gf, first, cap, rfl, hb, h7⟩, ⟨hk⟩⟩ | ⟨rfl, ⟨hk⟩⟩
      · have hrun := run_call_fn (P := P) (W := W) (o := o) (a := a) (x := x) (first := first) (cap := cap) hb rx hop1
        have e1 : (first ++ args.map a.eval ++ cap : Array Value) = (first.toList ++ vs ++ cap.toList).toArray := by
          rw [← hargs]; apply Array.ext'; simp
        rw [e1] at hrun
        exact spec_sound he (σ := ⟨fr, H, G⟩) hs h7 (by simp [hop1]) hrun hh hdst hok hk
      · unfold posK at hk
        split at hk
        case h_2 => exact hk.elim
        rename_i k hp
        have e1 : args.map a.eval = vs.toArray := by rw [← hargs]; apply Array.ext'; simp
        exact yield_sound he (σ := ⟨fr, H, G⟩) hs hop1 rx e1 hdst hok hp hk
  case call f ys =>
    obtain ⟨args, ts, hop1, hys⟩ := compOp_call hop
    obtain ⟨r, G0, M, E, h0, h1, h2, h3, h4, h5, h6⟩ := hs.ex
    obtain ⟨fr, H, G⟩ := σ
    simp only [opF] at hd
    have hg := guard_sound (io := ⟨dst, .call f ys, g, hid, al, early, deps, lc⟩) h6 hgd (guardF_K (io := ⟨_, _, _, _, _, _, _, _⟩) hd)
    generalize Region.wanted o (yielded ops a.tmps) = run at hg
    cases run with
    | false => exact ⟨fun _ _ => trivial, skip dst hdst hok hg⟩
    | true =>
      rw [if_pos rfl]
      simp only at hg
      split at hg
      case h_2 => exact hg.elim
      rename_i vs hvs
      split at hg
      case h_2 => exact hg.elim
      rename_i s hs'
      obtain ⟨h7, hb⟩ := T.ok f s hs'
      have hargs := opds_rel h6.fr (fun h ob v e e' => h6.sim.name e e') hys hvs
      have hrun := run_call_fn (P := P) (W := W) (o := o) (a := a) (x := .func f) (first := #[]) (cap := #[]) hb rfl hop1
      have e1 : (#[] ++ args.map a.eval ++ #[] : Array Value) = (id vs).toArray := by
        rw [← hargs]; apply Array.ext'; simp
      rw [e1] at hrun
      exact spec_sound he (σ := ⟨fr, H, G⟩) hs h7 (by simp [hop1]) hrun hh hdst hok hg
  all_goals exact plain hd

theorem SatE.pub {e : Env} {b : Nat} {M0 : Nat → Prop} {E0 : Nat → Value} {σ : St} {a : Act} {W : World} {l : List Nat} {K : HK} (hs : SatE e ds n b M0 E0 σ a W) (hd : pubS σ.fr σ.H σ.G l K) : ∃ H' G', K H' G' ∧ Grow σ.G G' ∧ SatE e ds n b M0 E0 ⟨σ.fr, H', G'⟩ a W := by
  obtain ⟨r, G0, M, E, h0, h1, h2, h3, h4, h5, h6⟩ := hs.ex
  obtain ⟨H1, G1, k1, k2, k3⟩ := pubS_sound ⟨h6.sim, h6.mH⟩ hd
  exact ⟨H1, G1, k1, k2, SatE.of h1 h2 h3 h4 (h5.trans k2) (h6.pub k3) h0⟩
theorem SatE.nam {e : Env} {b : Nat} {M0 : Nat → Prop} {E0 : Nat → Value} {σ : St} {a : Act} {W : World} {l : List Nat} {K : (Nat → Option OB) → Prop} (hs : SatE e ds n b M0 E0 σ a W) (hd : namS σ.fr σ.H l K) : ∃ H', K H' ∧ SatE e ds n b M0 E0 ⟨σ.fr, H', σ.G⟩ a W := by
  obtain ⟨r, G0, M, E, h0, h1, h2, h3, h4, h5, h6⟩ := hs.ex
  obtain ⟨H1, k1, k3⟩ := namS_sound ⟨h6.sim, h6.mH⟩ hd
  exact ⟨H1, k1, SatE.of h1 h2 h3 h4 h5 (h6.pub k3) h0⟩
theorem SatE.up {e : Env} {b b' : Nat} {M0 : Nat → Prop} {E0 : Nat → Value} {σ : St} {a : Act} {W : World} (hs : SatE e ds n b M0 E0 σ a W) (hb : b ≤ b') : SatE e ds n b' M0 E0 σ a W := by
  obtain ⟨r, G0, M, E, h0, h1, h2⟩ := hs.ex
  exact ⟨r, G0, M, E, h0, fun k hk => Nat.lt_of_lt_of_le (h1 k hk) hb, h2⟩

theorem ops_sound (T : Tab P) {pb : List Nat} {e : Env} (he : e.Ok P) {ops : Array Oper} {Q : Exit → Act → World → Prop} {base : Nat} {M0 : Nat → Prop} {E0 : Nat → Value} : ∀ {l : List Oper} {xs : List IOper} {b : Nat} {σ : St} {a : Act} {W : World} {K : St → Prop},
    compList P n ops l b = some xs → SatE e ds n b M0 E0 σ a W → vcSeq P T.get ⟨e.l, e.Y, pb⟩ base xs σ K →
      (∀ σ' a' W', K σ' → Grow σ.G σ'.G → SatE e ds n (b + l.length) M0 E0 σ' a' W' → Q .normal a' W') → wpListIn (FW rd) nn P ops Q l a W
  | [], xs, b, σ, a, W, K, h, hs, hd, hq => by
    cases h
    exact hq σ a W hd (Grow.refl _) hs
  | o :: r, xs, b, σ, a, W, K, h, hs, hd, hq => by
    simp only [compList] at h
    split at h
    case h_2 => cases h
    rename_i x xs' hx hxs
    cases h
    obtain ⟨h1, h2, h3, h4, h5⟩ := compOper_spec hx
    simp only [vcSeq] at hd
    obtain ⟨H0, G1, hd, hg1, hs1⟩ := hs.pub hd
    obtain ⟨H1, hd, hs2⟩ := hs1.nam hd
    have key := opF_sound T he (rd := rd) (nn := nn) (Q := Q) hs2 h1 h2 h3 h4 h5 hd
    have next : ∀ a' W', (∃ σ', vcSeq P T.get ⟨e.l, e.Y, pb⟩ base xs' σ' K ∧ Grow G1 σ'.G ∧ SatE e ds n (b + 1) M0 E0 σ' a' W') → wpListIn (FW rd) nn P ops Q r a' W' := by
      rintro a' W' ⟨σ', hk, hg, hs'⟩
      refine ops_sound T he hxs hs' hk (fun σ2 a2 W2 k1 k2 k3 => hq σ2 a2 W2 k1 ((hg1.trans hg).trans k2) (by rw [List.length_cons, Nat.add_comm r.length 1, ← Nat.add_assoc]; exact k3))
    simp only [wpListIn]
    split
    · rename_i hw
      rw [if_pos hw] at key
      exact Oper.wpIn_mono next key
    · rename_i hw
      rw [if_neg hw] at key
      exact ⟨key.1, next _ _ key.2⟩

/-- The frame of a loop's head. -/
theorem SatE.head {e : Env} {pb : List Nat} {bd bd' : Nat} {M0 : Nat → Prop} {E0 : Nat → Value} {σ : St} {a : Act} {W : World} {fl : List (Nat × SV)} {hl : List (Nat × OB)} (hs : SatE e ds n bd' M0 E0 σ a W) (hM0 : ∀ k, M0 k → k < bd) (hpb : ∀ k, M0 k → k ∈ pb) (hh : HeadP pb σ fl hl) (b1 : frBd bd fl = true) (b2 : HBd bd hl = true) :
    SatE e ds n bd M0 E0 ⟨frOf fl, HOf hl, σ.G⟩ a W := by
  obtain ⟨r, G0, M, E, k0, k1, k2, k3, k4, k5, k6⟩ := hs.ex
  obtain ⟨⟨π, h1, h2, h3, h4⟩, hp⟩ := hh
  refine SatE.of (M := fun k => k < bd) (E := En E π) (r := r) (G0 := G0) (fun _ h => h) hM0 (fun k hk => ?_) (by show Rooted e (frOf fl POS) r G0; rw [← hp]; exact k4) k5 ⟨(k6.sim.ren h2 h3).1, frBd_ment b1, HBd_ment b2, ?_, k6.size, k6.defers⟩ k0
  · have : En E π k = E k := by unfold En; rw [avoid_spec h4 (hpb k hk)]
    rw [this]; exact k3 k hk
  · intro i
    rcases frV_look (i := i) h1 with h | h
    · simp only [h]; trivial
    · exact SV.ren_rel h (k6.fr i)
theorem SatE.low {e : Env} {bd : Nat} {M0 : Nat → Prop} {E0 : Nat → Value} {σ : St} {a : Act} {W : World} (hs : SatE e ds n bd M0 E0 σ a W) : ∀ k, M0 k → k < bd := by
  obtain ⟨r, G0, M, E, k0, k1, k2, _⟩ := hs.ex
  exact fun k hk => k1 k (k2 k hk)
end
end Go.Pal
