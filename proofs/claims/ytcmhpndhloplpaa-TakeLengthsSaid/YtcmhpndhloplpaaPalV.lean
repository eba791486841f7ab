/- A call in the midst of two parties; one operation; regions in the order of the text. -/
import Derived.Test.YtcmhpndhloplpaaPalJ
namespace Go.Pal
open Go.RowKit

/-- What one knows, where some blocks lie as they lay in W1. -/
def Keep (J : JT) (Kp : Nat → Prop) (W1 : World) : JT := fun k Hd G W => J k (fun b => Hd b ∨ Kp b) G W ∧ ∀ b, Kp b → b < W1.heap.size ∧ W.heap[b]? = W1.heap[b]? ∧ G b = none ∧ ¬ Hd b

theorem Keep.low {W W1 : World} {b : Nat} (h1 : b < W1.heap.size) (h2 : W.heap[b]? = W1.heap[b]?) : b < W.heap.size := by
  rw [Array.getElem?_eq_getElem h1] at h2
  exact (Array.getElem?_eq_some_iff.1 h2).1

theorem Keep.stable {J : JT} (h : Stable J) (Kp : Nat → Prop) (W1 : World) : Stable (Keep J Kp W1) := by
  rintro k Hd G W Hd' G' W' ⟨hJ, hk⟩ s
  have keep : ∀ b, Kp b → b < W1.heap.size ∧ W'.heap[b]? = W1.heap[b]? ∧ G' b = none ∧ ¬ Hd' b := fun b hb => by
    obtain ⟨h1, h2, h3, h4⟩ := hk b hb
    have hlt := Keep.low h1 h2
    refine ⟨h1, (s.beneath.block b hlt h4).trans h2, ?_, fun h => ?_⟩
    · cases hG : G' b with
      | none => rfl
      | some o =>
        rcases s.newG b o hG with h | h | h
        · rw [h3] at h; cases h
        · exact (h4 h).elim
        · omega
    · rcases (s.hd b h).1 with h | h
      · exact h4 h
      · omega
  refine ⟨h k _ G W _ G' W' hJ ⟨⟨s.beneath.os, s.beneath.tape, s.beneath.output, s.beneath.size, fun j hj hn => s.beneath.block j hj (fun hh => hn (.inl hh))⟩, s.grow, s.sub, ?_, ?_⟩, keep⟩
  · intro b o hb
    rcases s.newG b o hb with h | h | h
    · exact .inl h
    · exact .inr (.inl (.inl h))
    · exact .inr (.inr h)
  · rintro b (hb | hb)
    · exact ⟨(s.hd b hb).1.imp .inl id, (s.hd b hb).2⟩
    · obtain ⟨h1, h2, h3, h4⟩ := keep b hb
      exact ⟨.inl (.inr hb), h3, Keep.low h1 h2⟩

theorem Keep.env {P : Program} {e : Env} (he : e.Ok P) (Kp : Nat → Prop) (W1 : World) : Env.Ok P ⟨e.l, e.Y, Keep e.J Kp W1, Keep e.Jx Kp W1⟩ := by
  refine ⟨Keep.stable he.st Kp W1, Keep.stable he.stx Kp W1, ?_⟩
  rintro k args Hd G W hY ⟨hJ, hk⟩ hsub hHd
  obtain ⟨fn, tmps, assign, body, h1, h2⟩ := he.y k args (fun b => Hd b ∨ Kp b) G W hY hJ hsub (fun b hb => by
    rcases hb with hb | hb
    · exact hHd b hb
    · obtain ⟨q1, q2, q3, _⟩ := hk b hb
      exact ⟨q3, Keep.low q1 q2⟩)
  refine ⟨fn, tmps, assign, body, h1, h2.mono ?_⟩
  rintro en W' ⟨st, G', r1, r2, r3, r4, r5, r6⟩
  have keep : ∀ b, Kp b → b < W1.heap.size ∧ W'.heap[b]? = W1.heap[b]? ∧ G' b = none ∧ ¬ Hd b := fun b hb => by
    obtain ⟨q1, q2, q3, q4⟩ := hk b hb
    obtain ⟨q5, q6⟩ := r4 b (.inr hb)
    exact ⟨q1, q5.trans q2, q6, q4⟩
  refine ⟨st, G', r1, r2, r3, fun b hb => r4 b (.inl hb), r5, ?_⟩
  cases st
  · exact ⟨r6, keep⟩
  · exact ⟨r6, keep⟩

theorem denCallv_grow {H : Nat → Option OB} {hid : Nat} {Gr G : Hp} {K : SV → List (Nat × Option OB) → Hp → Prop} {args : List Value} {s : PSpec} (h : denCallv H hid Gr G K args s) : denCallv H hid Gr G (fun sv hu G' => Grow G G' ∧ K sv hu G') args s := by
  have fk : ∀ {sv : SV} {L : SV → Prop}, fork sv L → ∀ {L' : SV → Prop}, (∀ s, L s → L' s) → fork sv L' := fun {sv L} h {L'} hl => by
    unfold fork at *
    split
    · exact ⟨fun e => ⟨hl _ (h.t e).out⟩, fun e => ⟨hl _ (h.f e).out⟩⟩
    · rename_i hne
      split at h
      · exact absurd rfl (hne _)
      · exact hl _ h
  cases s with
  | st pre post =>
    obtain ⟨hs, h1, h2, h3, h4⟩ := h
    exact ⟨hs, h1, h2, h3, fun v ns G' hg hp => ⟨fk (h4 v ns G' hg hp).out fun s h => ⟨hg, h⟩⟩⟩
  | fn pre val => exact ⟨h.h, ⟨fk h.k.out fun s h => ⟨Grow.refl _, h⟩⟩⟩
  | sca pre post => exact ⟨h.h, fun v hv => ⟨fk (h.k v hv).out fun s h => ⟨Grow.refl _, h⟩⟩⟩
  | rel pre post => exact ⟨h.h, fun v G' hg hv => ⟨fk (h.k v G' hg hv).out fun s h => ⟨hg, h⟩⟩⟩
  | own t k pre post => exact ⟨h.h, fun n vs G' hg hv => ⟨⟨hg, (h.k n vs G' hg hv).out⟩⟩⟩
  | seq pre post => exact h.elim

theorem cond_inj {α : Type} {b : Bool} {x y : α} (h : (bif b then some x else none) = some y) : x = y := by
  cases b
  · cases h
  · exact Option.some.inj h

theorem cond_ors {α : Type} {b : Bool} {x y z : α} (h : (bif b then some x else some y) = some z) : x = z ∨ y = z := by
  cases b
  · exact .inr (Option.some.inj h)
  · exact .inl (Option.some.inj h)

theorem compOp_callv {P : Program} {op : Op} {x' : Opd} {ys : List Opd} (h : compOp P op = some (.callv x' ys)) : ∃ x args ts, op = .call { callee := .value x, args := args, argTypes := ts } ∧ compOpd x = some x' ∧ compOpds args.toList = some ys := by
  cases op with
  | call c =>
    simp only [compOp, compCall] at h
    obtain ⟨callee, args, ts⟩ := c
    simp only at h
    split at h
    · split at h <;> cases h
    · split at h
      · cases h; exact ⟨_, _, _, rfl, ‹_›, ‹_›⟩
      · cases h
    all_goals (repeat' split at h) <;> first | (cases h; done) | (cases (cond_inj h); done) | (rcases cond_ors h with h | h <;> cases h; done)
  | _ =>
    simp only [compOp] at h
    first
      | (cases h; done)
      | (simp only [Option.map_eq_some_iff] at h; obtain ⟨_, _, h⟩ := h; cases h; done)
      | ((repeat' split at h) <;> first | contradiction | (cases h; done) | (simp only [Option.map_eq_some_iff] at h; obtain ⟨_, _, h⟩ := h; cases h; done) | (cases (cond_inj h); done) | (rcases cond_ors h with h | h <;> cases h; done))
theorem compOp_call {P : Program} {op : Op} {f : FuncId} {ys : List Opd} (h : compOp P op = some (.call f ys)) : ∃ args ts, op = .call { callee := .value (.func f), args := args, argTypes := ts } ∧ compOpds args.toList = some ys := by
  cases op with
  | call c =>
    simp only [compOp, compCall] at h
    obtain ⟨callee, args, ts⟩ := c
    simp only at h
    split at h
    · split at h
      · cases h; exact ⟨_, _, rfl, ‹_›⟩
      · cases h
    · split at h <;> cases h
    all_goals (repeat' split at h) <;> first | (cases h; done) | (cases (cond_inj h); done) | (rcases cond_ors h with h | h <;> cases h; done)
  | _ =>
    simp only [compOp] at h
    first
      | (cases h; done)
      | (simp only [Option.map_eq_some_iff] at h; obtain ⟨_, _, h⟩ := h; cases h; done)
      | ((repeat' split at h) <;> first | contradiction | (cases h; done) | (simp only [Option.map_eq_some_iff] at h; obtain ⟨_, _, h⟩ := h; cases h; done) | (cases (cond_inj h); done) | (rcases cond_ors h with h | h <;> cases h; done))

theorem roundIn_FW {r : Option Nat} {n : Nat} {P : Program} {l : Nat} {f : FuncId} {tmps : Array Value} {assign body : Code} {w : World} {R : Ending → World → Prop} (h : RoundIn Fence.wide 0 P l f tmps assign body w R) : RoundIn (FW r) n P l f tmps assign body w R :=
  ⟨trivial, fun c cs _ => h.2 c cs (room_wide _)⟩

section
variable {P : Program} {e : Env} {ds : List Deferred} {n b : Nat} {M0 : Nat → Prop} {E0 : Nat → Value} {σ : St} {a : Act} {W : World} {rd : Option Nat} {nn : Nat} {Q : Exit → Act → World → Prop} {K : St → Prop}

theorem mono_M {M : Nat → Prop} {hid : Nat} (hh : hid = b) (h : ∀ k, M k → k < b) : ∀ k, (M k ∨ k = hid) → k < b + 1 := fun k hk => hk.elim (fun h' => Nat.lt_succ_of_lt (h k h')) (fun h' => by omega)

/-- Behind the other's turn: the value is laid down. -/
theorem resume (he : e.Ok P) {M : Nat → Prop} {E : Nat → Value} (hM : ∀ k, M k → k < b) (hM0 : ∀ k, M0 k → M k) (hAg : Agree M0 E0 E) (hR : Rooted e (σ.fr POS) ⟨W, Hand E σ.H, a.defers⟩ σ.G) (hS : Sat ⟨W, Hand E σ.H, a.defers⟩ σ.G n M E σ a W)
    {k : Nat} {st : Bool} {G' : Hp} {W' : World} {Hd : Nat → Prop} (hg : Grow σ.G G') (hsub : Sub G' W') (hk : ∀ b, HdOf ⟨W, Hand E σ.H, a.defers⟩ σ.G b → W'.heap[b]? = W.heap[b]? ∧ G' b = none) (hJ : (cond st e.Jx e.J) k Hd G' W')
    (hHd : ∀ b, HdOf ⟨W, Hand E σ.H, a.defers⟩ σ.G b → Hd b) {dst : Option Nat} (hok : dstOk n dst = true) {v : Value} {sv0 : SV} (hsv : sv0.rel E v) (hsm : sv0.ment M) (hf : fork sv0 fun sv => appK dst (upd σ.fr POS (.c (.pos k st))) σ.H K sv [] G') :
    ∃ σ', K σ' ∧ Grow σ.G σ'.G ∧ SatE e a.defers n (b + 1) M0 E0 σ' (a.put dst v) W' := by
  obtain ⟨h1, h2, h3⟩ := Rooted.after hS.sim hR.marks hg hsub hk
  have hS1 : Sat ⟨W', Hand E σ.H, a.defers⟩ G' n M E ⟨upd σ.fr POS (.c (.pos k st)), σ.H, G'⟩ a W' := by
    refine ⟨h1, fun i => ?_, hS.mH, fun i => ?_, hS.size, hS.defers⟩
    · by_cases hi : i = POS
      · rw [hi]; simp only [upd_same]; trivial
      · simp only [upd_other _ _ hi]; exact hS.mfr i
    · by_cases hi : i = POS
      · rw [hi]; simp only [upd_same]; trivial
      · simp only [upd_other _ _ hi]; exact hS.fr i
  obtain ⟨sv', k1, k2, k3⟩ := fork_elim hf hsv hsm
  have hO : OpPost ⟨W', Hand E σ.H, a.defers⟩ G' M E σ.H b (fun sv hu G2 => K (St.app ⟨upd σ.fr POS (.c (.pos k st)), σ.H, G'⟩ dst sv hu G2) ∧ G2 = G') v W' :=
    ⟨sv', [], G', E, ⟨by have k1' := k1; rw [show appK dst (upd σ.fr POS (.c (.pos k st))) σ.H K = _ from appK_eq dst ⟨upd σ.fr POS (.c (.pos k st)), σ.H, G'⟩ K] at k1'; exact k1', rfl⟩, k2, SV.ment_mono (fun _ h => .inl h) k3, Agree.refl _ _, h1, fun h ob e => ⟨.inl (hS.mH h ob e).1, OB.ment_mono (fun _ h => .inl h) (hS.mH h ob e).2⟩⟩
  obtain ⟨sv, hu, G2, E', ⟨q1, q2⟩, q3, q4, q5⟩ := hS1.app hok hO
  subst q2
  refine ⟨_, q1, hg, SatE.of (mono_M rfl hM) (fun k hk => .inl (hM0 k hk)) (fun k hk => (q3 k (hM0 k hk)).trans (hAg k hk)) (r := ⟨W', Hand E σ.H, a.defers⟩) (G0 := G2) ?_ (Grow.refl _) q5⟩
  rw [q4]
  simp only [upd_same]
  refine ⟨?_, fun b hb => (h3 b hb).1, hsub, h2⟩
  have sh : EnvStep Hd G2 W' (HdOf ⟨W', Hand E σ.H, a.defers⟩ G2) G2 W' := by
    refine EnvStep.shrink hsub fun b hb => ?_
    have hb' : HdOf ⟨W, Hand E σ.H, a.defers⟩ σ.G b := by
      rcases hb with ⟨hb, hb2⟩ | hb
      · refine .inl ⟨hb, ?_⟩
        cases h : σ.G b with
        | none => rfl
        | some o => rw [hg b o h] at hb2; cases hb2
      · exact .inr hb
    refine ⟨hHd b hb', (hk b hb').2, ?_⟩
    rcases hb with ⟨hb, _⟩ | hb
    · exact (h3 b hb).1
    · exact (Array.getElem?_eq_some_iff.1 (h2.at_ b hb).2.2).1
  have := he.step (sv := .c (.pos k st)) hJ sh
  exact this

theorem HdOf_low (hR : Rooted e (σ.fr POS) ⟨W, Hand E0 σ.H, a.defers⟩ σ.G) {c : Nat} (h : HdOf ⟨W, Hand E0 σ.H, a.defers⟩ σ.G c) : c < W.heap.size ∧ σ.G c = none := by
  rcases h with ⟨h1, h2⟩ | h
  · exact ⟨hR.ln c h1, h2⟩
  · exact ⟨(Array.getElem?_eq_some_iff.1 (hR.marks.at_ c h).2.2).1, (hR.marks.at_ c h).2.1⟩

/-- A call by a contract. -/
theorem spec_sound (he : e.Ok P) {o : Oper} {g : FuncId} {sh : List Value → List Value} {s : PSpec} {vs : List Value} {dst : Option Nat} {hid : Nat} {pb : List Nat} (hs : SatE e ds n b M0 E0 σ a W) (hg : Sound P g sh s) (hnd : ∀ c, o.op ≠ .defer c) (hrun : (execOp a.eval o).run P W = .ok (.enter g (sh vs).toArray) W)
    (hid_eq : hid = b) (hdst : o.dst = dst) (hok : dstOk n dst = true) (hd : specK ⟨e.l, e.Y, pb⟩ dst σ.fr σ.H hid σ.G K vs s) :
    o.wpIn (FW rd) nn P a W (fun a' W' => ∃ σ', K σ' ∧ Grow σ.G σ'.G ∧ SatE e ds n (b + 1) M0 E0 σ' a' W') Q := by
  have plain : denCallv σ.H hid σ.G σ.G (appK dst σ.fr σ.H K) vs s → o.wpIn (FW rd) nn P a W (fun a' W' => ∃ σ', K σ' ∧ Grow σ.G σ'.G ∧ SatE e ds n (b + 1) M0 E0 σ' a' W') Q := fun hd => by
    obtain ⟨r, G0, M, E, h0, h1, h2, h3, h4, h5, h6⟩ := hs.ex
    have hfresh : ¬ M hid := fun h => by have := h1 _ h; omega
    have C : Ctx r G0 σ.G σ.G M E σ.H σ.H hid σ.fr a W := ⟨h6.fr, h6.mfr, h6.sim, h6.mH, hfresh, fun _ _ e => e, Grow.refl _⟩
    have hc := wp_of_enter (o := o) (a := a) (rd := rd) (nn := nn) (Q := Q) hnd hrun (callv_sound C hg (denCallv_grow hd))
    refine Oper.wpIn_mono ?_ hc
    rintro a' W' ⟨v, rfl, hp⟩
    rw [hdst]
    obtain ⟨sv, hu, G', E', ⟨q1, q2⟩, q3, q4, q5⟩ := h6.app hok hp
    rw [appK_eq] at q2
    exact ⟨_, q2, q1, SatE.of (mono_M hid_eq h1) (fun k hk => .inl (h2 k hk)) (fun k hk => (q3 k (h2 k hk)).trans (h3 k hk)) (q4 ▸ h4) (h5.trans q1) q5 h0⟩
  cases s with
  | fn pre val => exact plain hd
  | sca pre post => exact plain hd
  | rel pre post => exact plain hd
  | own t k pre post => exact plain hd
  | st pre post => exact plain hd
  | seq pre post =>
    simp only [specK, posK] at hd
    split at hd
    case h_2 => exact hd.elim
    rename_i k hp
    obtain ⟨Ys, d1, d2, d3, d4⟩ := hd
    obtain ⟨M, E, rfl, h1, h2, h3, h4, h5⟩ := hs.now he
    rw [hp] at h4
    have hJ : e.J k (HdOf ⟨W, Hand E σ.H, a.defers⟩ σ.G) σ.G W := h4.at_
    have low : ∀ c, HdOf ⟨W, Hand E σ.H, a.defers⟩ σ.G c → c < W.heap.size ∧ σ.G c = none := fun c hc => by
      rcases hc with ⟨q1, q2⟩ | q
      · exact ⟨h4.ln c q1, q2⟩
      · exact ⟨(Array.getElem?_eq_some_iff.1 (h4.marks.at_ c q).2.2).1, (h4.marks.at_ c q).2.1⟩
    have hJ' : Keep e.J (HdOf ⟨W, Hand E σ.H, a.defers⟩ σ.G) W k (fun _ => False) σ.G W := by
      refine ⟨he.st _ _ _ _ _ _ _ hJ (EnvStep.shrink h5.sim.sub fun c hc => ?_), fun c hc => ⟨(low c hc).1, rfl, (low c hc).2, id⟩⟩
      rcases hc with hc | hc
      · exact hc.elim
      · exact ⟨hc, (low c hc).2, (low c hc).1⟩
    have hcall := hg ⟨e.l, e.Y, Keep e.J (HdOf ⟨W, Hand E σ.H, a.defers⟩ σ.G) W, Keep e.Jx (HdOf ⟨W, Hand E σ.H, a.defers⟩ σ.G) W⟩ (Keep.env he _ W) vs σ.G W Ys k h5.sim.sub d1 d2 hJ'
    refine Oper.wpIn_mono ?_ (wp_of_enter (o := o) (a := a) (rd := rd) (nn := nn) (Q := Q) (R := fun v W' => ∃ st j G', post st v ∧ Grow σ.G G' ∧ Sub G' W' ∧ (st = false → j = k + Ys.length) ∧ (cond st (Keep e.Jx (HdOf ⟨W, Hand E σ.H, a.defers⟩ σ.G) W) (Keep e.J (HdOf ⟨W, Hand E σ.H, a.defers⟩ σ.G) W)) j (fun _ => False) G' W') hnd hrun (hcall.mono fun en W' ⟨v, st, j, G', r1, r2⟩ => ⟨v, r1, st, j, G', r2⟩))
    rintro a' W' ⟨v, rfl, st, j, G', r1, r2, r3, r4, r5⟩
    rw [hdst]
    have r6 : (cond st e.Jx e.J) j (fun c => False ∨ HdOf ⟨W, Hand E σ.H, a.defers⟩ σ.G c) G' W' ∧ ∀ c, HdOf ⟨W, Hand E σ.H, a.defers⟩ σ.G c → W'.heap[c]? = W.heap[c]? ∧ G' c = none := by
      cases st
      · exact ⟨r5.1, fun c hc => ⟨(r5.2 c hc).2.1, (r5.2 c hc).2.2.1⟩⟩
      · exact ⟨r5.1, fun c hc => ⟨(r5.2 c hc).2.1, (r5.2 c hc).2.2.1⟩⟩
    refine resume he h1 h2 h3 (hp.symm ▸ h4) h5 r2 r3 r6.2 r6.1 (fun c hc => .inr hc) hok (SV.of_rel E v) (SV.of_ment M v) ?_
    cases st
    · rw [r4 rfl]; exact (d3 v G' r2 r1).out
    · exact (d4 j v G' r2 r1).out

/-- A round of the loop. -/
theorem yield_sound (he : e.Ok P) {o : Oper} {x : Operand} {args : Array Operand} {ts : Array TypeId} {vs : List Value} {dst : Option Nat} {k : Nat} {pb : List Nat} (hs : SatE e ds n b M0 E0 σ a W) (hop : o.op = .call { callee := .value x, args := args, argTypes := ts }) (hx : a.eval x = .func (.yield e.l) #[] #[]) (hargs : args.map a.eval = vs.toArray)
    (hdst : o.dst = dst) (hok : dstOk n dst = true) (hp : σ.fr POS = .c (.pos k false)) (hd : YieldP ⟨e.l, e.Y, pb⟩ k vs σ.G fun b G' => appK dst (upd σ.fr POS (.c (.pos (k + 1) (!b)))) σ.H K (.v (.bool b)) [] G') :
    o.wpIn (FW rd) nn P a W (fun a' W' => ∃ σ', K σ' ∧ Grow σ.G σ'.G ∧ SatE e ds n (b + 1) M0 E0 σ' a' W') Q := by
  obtain ⟨M, E, rfl, h1, h2, h3, h4, h5⟩ := hs.now he
  have h4' := h4
  rw [hp] at h4'
  have hJ : e.J k (HdOf ⟨W, Hand E σ.H, a.defers⟩ σ.G) σ.G W := h4'.at_
  obtain ⟨fn, tmps, assign, body, hy, hround⟩ := he.y k vs _ σ.G W hd.m hJ h5.sim.sub (fun c hc => (HdOf_low h4 hc).symm)
  have hrun : (execOp a.eval o).run P W = .ok (.round e.l fn tmps assign body) W := by
    rw [← hy, ← hargs]
    simp [execOp, hop, resolve, hx, Deferred.ofValue, invoke]
  refine ⟨fun _ _ => trivial, ?_⟩
  rw [Oper.semAt_eq _ _ _ (by simp [hop]), hrun, Oper.uponIn_round]
  refine ⟨fun h => by simp [FW, Fence.wide] at h, (roundIn_FW hround).mono ?_⟩
  rintro en W' ⟨st, G', rfl, r1, r2, r3, r4, r5⟩
  rw [hdst]
  refine resume he h1 h2 h3 h4 h5 r1 r2 r3 r5 (fun _ hc => hc) hok (v := .bool (!st)) (sv0 := .v (.bool (!st))) rfl trivial ?_
  cases st
  · exact (hd.t G' r1).out
  · exact (hd.f G' r1).out
end
end Go.Pal
