/- Each operation of the model does what its intermediate form yields on symbolic values. -/
import Derived.Test.YtcmhpndhloplpaaPalB
namespace Go.Pal
open Go.RowKit

/-- The fence of nothing, in the frame of a function or of a round. -/
def FW (r : Option Nat) : Fence := { Fence.wide with round := r }

theorem callsIn_FW {r : Option Nat} {n : Nat} {P : Program} {f : FuncId} {args : Array Value} {w : World} {R : Ending → World → Prop} (h : Calls P f args w R) : CallsIn (FW r) n P f args w R :=
  (callsIn_wide (n := n)).2 h

section
variable {P : Program} {o : Oper} {a : Act} {W W' : World} {rd : Option Nat} {nn : Nat} {Q : Exit → Act → World → Prop} {R : Value → World → Prop}

theorem wp_of_run {v : Value} (hnd : ∀ c, o.op ≠ .defer c) (h : (execOp a.eval o).run P W = .ok (.value v) W') (hp : R v W') :
    o.wpIn (FW rd) nn P a W (fun a' W' => ∃ v, a' = a.put o.dst v ∧ R v W') Q := by
  refine ⟨fun _ _ => trivial, ?_⟩
  rw [Oper.semAt_eq _ _ _ hnd, h]
  exact ⟨v, rfl, hp⟩
theorem wp_of_skip (hnd : ∀ c, o.op ≠ .defer c) (h : (execOp a.eval o).run P W = .ok .skip W') (hp : R undef W') :
    o.wpIn (FW rd) nn P a W (fun a' W' => ∃ v, a' = a.put o.dst v ∧ R v W') Q := by
  refine ⟨fun _ _ => trivial, ?_⟩
  rw [Oper.semAt_eq _ _ _ hnd, h]
  exact ⟨undef, rfl, hp⟩
theorem wp_of_enter {f : FuncId} {args : Array Value} (hnd : ∀ c, o.op ≠ .defer c) (h : (execOp a.eval o).run P W = .ok (.enter f args) W) (hc : Calls P f args W fun e W' => ∃ v, e = .returned v ∧ R v W') :
    o.wpIn (FW rd) nn P a W (fun a' W' => ∃ v, a' = a.put o.dst v ∧ R v W') Q := by
  refine ⟨fun _ _ => trivial, ?_⟩
  rw [Oper.semAt_eq _ _ _ hnd, h, Oper.uponIn_enter]
  refine ⟨fun h => by simp [FW, Fence.wide] at h, callsIn_FW (hc.mono ?_)⟩
  rintro e w' ⟨v, rfl, hr⟩
  exact ⟨v, rfl, hr⟩
end

def updH (H : Nat → Option OB) : List (Nat × Option OB) → Nat → Option OB
  | [] => H
  | (h, ob) :: r => updH (upd H h ob) r

/-- What is known behind an operation that has yielded v. -/
def OpPost (w0 : Root) (G0 : Hp) (M : Nat → Prop) (E : Nat → Value) (H : Nat → Option OB) (hid : Nat) (K : SV → List (Nat × Option OB) → Hp → Prop) (v : Value) (W' : World) : Prop :=
  ∃ sv hu G' E', K sv hu G' ∧ sv.rel E' v ∧ sv.ment (fun k => M k ∨ k = hid) ∧ Agree M E E' ∧ Sim w0 G0 E' (updH H hu) G' W' ∧ (∀ h ob, updH H hu h = some ob → (M h ∨ h = hid) ∧ ob.ment (fun k => M k ∨ k = hid))

theorem fork_elim {E : Nat → Value} {M : Nat → Prop} {sv : SV} {v : Value} {K : SV → Prop} (h : fork sv K) (hr : sv.rel E v) (hm : sv.ment M) : ∃ sv', K sv' ∧ sv'.rel E v ∧ sv'.ment M := by
  unfold fork at h
  split at h
  · rename_i b
    have hr : v = .bool b := hr
    cases b
    · exact ⟨ff, (h.f rfl).out, hr, trivial⟩
    · exact ⟨tt, (h.t rfl).out, hr, trivial⟩
  · exact ⟨sv, h, hr, hm⟩

section
variable {w0 : Root} {W W' : World} {G0 Gr G : Hp} {M : Nat → Prop} {E : Nat → Value} {H Hv : Nat → Option OB} {hid : Nat} {K : SV → List (Nat × Option OB) → Hp → Prop}

theorem OpPost.quiet (hs : Sim w0 G0 E H G W') (mH : ∀ h ob, H h = some ob → M h ∧ ob.ment M) {sv : SV} {v : Value} (hk : fork sv fun sv => K sv [] G) (hr : sv.rel E v) (hm : sv.ment M) : OpPost w0 G0 M E H hid K v W' :=
  let ⟨sv', hk, hr, hm⟩ := fork_elim hk hr hm
  ⟨sv', [], G, E, hk, hr, SV.ment_mono (fun _ h => .inl h) hm, Agree.refl _ _, hs, fun h ob e => ⟨.inl (mH h ob e).1, OB.ment_mono (fun _ h => .inl h) (mH h ob e).2⟩⟩

/-- A new own block. -/
theorem OpPost.new (hs : Sim w0 G0 E H G W) (mH : ∀ h ob, H h = some ob → M h ∧ ob.ment M) (hh : ¬ M hid) (hB : Below W.heap.size W W') {ob : OB} {sv : SV} {v u : Value} (hk : K sv [(hid, some ob)] G)
    (hok : ob.ok w0 (upd E hid u) W' hid) (hom : ob.ment M) (hp : ob.pub = none) (hnew : ∀ b, blkOf u = some b → W.heap.size ≤ b) (hr : sv.rel (upd E hid u) v) (hm : sv.ment (fun k => M k ∨ k = hid)) : OpPost w0 G0 M E H hid K v W' := by
  refine ⟨sv, _, G, upd E hid u, hk, hr, hm, Agree.upd E u hh, hs.new hB hh mH hok hp hnew, ?_⟩
  intro h ob' e
  simp only [updH] at e
  by_cases hk : h = hid
  · subst hk; rw [upd_same] at e; cases e; exact ⟨.inr rfl, OB.ment_mono (fun _ h => .inl h) hom⟩
  · rw [upd_other _ _ hk] at e; exact ⟨.inl (mH h ob' e).1, OB.ment_mono (fun _ h => .inl h) (mH h ob' e).2⟩
end

section
variable {fr : Nat → SV} {E : Nat → Value} {M : Nat → Prop} {a : Act}

theorem opd_rel (hfr : ∀ i, (fr i).rel E (a.tmps.getD i undef)) : ∀ {x : Operand} {y : Opd}, compOpd x = some y → (y.ev fr).rel E (a.eval x)
  | .tmp t, y, h => by cases h; exact hfr t
  | .const v, y, h => by cases h; rfl
  | .func f, y, h => by cases h; rfl
  | .global _, _, h => by cases h
theorem opd_ment (mfr : ∀ i, (fr i).ment M) (y : Opd) : (y.ev fr).ment M := by cases y <;> first | exact mfr _ | trivial

theorem S1.toValH_rel {H : Nat → Option OB} (hpub : ∀ h ob v, H h = some ob → ob.name = some v → E h = v) {x : S1} {v w : Value} (hr : x.rel E w) (hv : x.toValH H = some v) : w = v := by
  cases x with
  | any => cases hv
  | pos => cases hv
  | val u => cases hv; exact hr
  | sb b => cases hv; exact hr
  | rptr h off => cases hv
  | ptrx h off => cases hv
  | row h n =>
    simp only [S1.toValH] at hv
    split at hv
    · rename_i hH
      cases hv
      rw [hr.1]; exact hpub _ _ _ hH rfl
    · cases hv
  | ptr h off =>
    simp only [S1.toValH] at hv
    obtain ⟨b, e1, e2⟩ := hr
    split at hv
    · rename_i hH
      cases hv
      have := hpub _ _ _ hH rfl
      rw [e1] at this; cases this
      exact e2
    · rename_i hH
      cases hv
      have := hpub _ _ _ hH rfl
      rw [e1] at this; cases this
      exact e2
    · cases hv
  | mref h =>
    simp only [S1.toValH] at hv
    split at hv
    · rename_i hH
      cases hv
      rw [hr.1]; exact hpub _ _ _ hH rfl
    · rename_i hH
      cases hv
      rw [hr.1]; exact hpub _ _ _ hH rfl
    · cases hv
theorem toValsH_rel {H : Nat → Option OB} (hpub : ∀ h ob v, H h = some ob → ob.name = some v → E h = v) : ∀ {cs : List S1} {us ws : List Value}, relL E cs ws → toValsH H cs = some us → ws = us
  | [], us, [], _, h => by cases h; rfl
  | [], _, _ :: _, hr, _ => hr.elim
  | _ :: _, _, [], hr, _ => hr.elim
  | c :: cs, us, w :: ws, hr, h => by
    simp only [toValsH] at h
    split at h
    · rename_i u hu
      split at h
      · rename_i us' hus
        cases h
        rw [toValsH_rel hpub hr.2 hus, S1.toValH_rel hpub hr.1 hu]
      · cases h
    · cases h

theorem opds_rel (hfr : ∀ i, (fr i).rel E (a.tmps.getD i undef)) {H : Nat → Option OB} (hpub : ∀ h ob v, H h = some ob → ob.name = some v → E h = v) :
    ∀ {xs : List Operand} {ys : List Opd} {vs : List Value}, compOpds xs = some ys → toVals2 H (evArgs fr ys) = some vs → xs.map a.eval = vs
  | [], ys, vs, h, h' => by cases h; cases h'; rfl
  | x :: xs, ys, vs, h, h' => by
    simp only [compOpds] at h
    split at h
    · rename_i y ys' h1 h2
      cases h
      simp only [evArgs, toVals2] at h'
      split at h'
      · rename_i v hv
        split at h'
        · rename_i vs' hvs
          cases h'
          have hr := opd_rel hfr h1
          simp only [List.map_cons, opds_rel hfr hpub h2 hvs, List.cons.injEq, and_true]
          generalize y.ev fr = sv at hr hv
          cases sv with
          | c x => exact S1.toValH_rel hpub hr hv
          | agg cs =>
            simp only [SV.toVal] at hv
            split at hv
            · rename_i us hus
              cases hv
              obtain ⟨ws, e, hr⟩ := hr
              rw [e, toValsH_rel hpub hr hus]
            · cases hv
        · cases h'
      · cases h'
    · cases h
end
end Go.Pal
