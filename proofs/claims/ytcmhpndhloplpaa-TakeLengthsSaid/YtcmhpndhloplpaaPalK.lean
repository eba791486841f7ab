/- What is published; the results of a function; from what is asked of its code to its contract. -/
import Derived.Test.YtcmhpndhloplpaaPalZ
namespace Go.Pal
open Go.RowKit

/-! ### Functions -/

inductive IRes where
  | tmp (t : Nat)
  | cell (t n : Nat) (agg : Bool)

def resSV (σ : St) : IRes → Option SV
  | .tmp t => some (σ.fr t)
  | .cell t n agg => match σ.fr t with
    | .c (.ptr h off) => match σ.H h with
      | some (.cells _ cs _) => let l := (cs.drop off).take n; cond (Nat.beq l.length n) (some (SV.mk agg l)) none
      | _ => none
    | _ => none

def resK (σ : St) : List IRes → (Nat → Option OB) → Hp → (List Value → HK) → Prop
  | [], H, G, K => K [] H G
  | r :: rs, H, G, K => match resSV σ r with
    | some sv => closeK H G sv fun v H1 G1 => resK σ rs H1 G1 fun vs H2 G2 => K (v :: vs) H2 G2
    | none => False

def wrapV : List Value → Value
  | [v] => v
  | vs => .tuple vs.toArray

/-- Any own blocks may be published at the end (what a function value holds). -/
def pubN (H : Nat → Option OB) (G : Hp) : List Nat → HK → Prop
  | [], A => W (A H G)
  | h :: r, A => match H h with
    | some (.cells (.named b) cs t) => clK H G cs fun vs H1 G1 => match H1 h with
      | some (.cells (.named b1) _ _) => ∀ G', Grow G1 G' → b1 = b → CellsAt G' b 0 vs → pubN (upd H1 h (some (.cells (.pub b) (vs.map .val) t))) G' r A
      | _ => False
    | _ => False
structure PubAnyP (H : Nat → Option OB) (G : Hp) (A : HK) : Prop where
  ex : ∃ hs, pubN H G hs A
def isFn : SV → Bool
  | .c (.val (.func ..)) => true
  | _ => false
def anyFn (σ : St) : List IRes → Bool
  | [] => false
  | .tmp t :: r => isFn (σ.fr t) || anyFn σ r
  | .cell .. :: r => anyFn σ r
def resF (rs : List IRes) (σ : St) (K : List Value → HK) : Prop := cond (anyFn σ rs) (PubAnyP σ.H σ.G fun H G => resK σ rs H G K) (resK σ rs σ.H σ.G K)
def finK (rs : List IRes) (σ : St) (K : Value → Hp → Prop) : Prop := resF rs σ fun vs _ G => FinP (K (wrapV vs) G)

def compRes (P : Program) : List ResultVar → Option (List IRes)
  | [] => some []
  | .tmp t :: r => (compRes P r).map (.tmp t :: ·)
  | .cell t ty :: r => match szT P ty, aggT P ty, compRes P r with
    | some n, some g, some rs => cond (g || Nat.beq n 1) (some (.cell t n g :: rs)) none
    | _, _, _ => none

def argFr : List Value → Nat → SV
  | [], _ => .c .any
  | v :: vs, i => match i with
    | 0 => SV.of v
    | i + 1 => argFr vs i

section
variable {P : Program}

theorem argFr_rel (E : Nat → Value) : ∀ (vs : List Value) (i : Nat), (argFr vs i).rel E (vs[i]?.getD undef)
  | [], _ => trivial
  | v :: vs, 0 => SV.of_rel E v
  | v :: vs, i + 1 => by simpa [argFr] using argFr_rel E vs i
theorem argFr_ment (M : Nat → Prop) : ∀ (vs : List Value) (i : Nat), (argFr vs i).ment M
  | [], _ => trivial
  | v :: vs, 0 => SV.of_ment M v
  | v :: vs, i + 1 => argFr_ment M vs i

theorem resSV_run {w0 : Root} {W : World} {G0 : Hp} {n : Nat} {M : Nat → Prop} {E : Nat → Value} {σ : St} {a : Act} (hs : Sat w0 G0 n M E σ a W) {t : Nat} {sv : SV} (h : resSV σ (.tmp t) = some sv) : sv.rel E (a.tmps.getD t undef) := by
  simp only [resSV, Option.some.injEq] at h
  rw [← h]; exact hs.fr t

theorem resSV_cell {w0 : Root} {W : World} {G0 : Hp} {n : Nat} {M : Nat → Prop} {E : Nat → Value} {σ : St} {a : Act} (hs : Sat w0 G0 n M E σ a W) {t ty m : Nat} {g : Bool} {sv : SV} (hn : szT P ty = some m) (hg : aggT P ty = some g) (hgn : g = true ∨ m = 1)
    (h : resSV σ (.cell t m g) = some sv) : ∃ ad v, a.tmps.getD t undef = .pointer (some ad) ∧ (loadVar ty ad).run P W = .ok v W ∧ sv.rel E v := by
  simp only [resSV] at h
  have hf := hs.fr t
  split at h
  · rename_i h' off e
    rw [e] at hf
    obtain ⟨b, e1, e2⟩ := hf
    split at h
    · rename_i p cs t' eH
      obtain ⟨b', vs, e3, hb', hw, hr, h1⟩ := hs.sim.own h' _ eH
      rw [e1] at e3; cases e3
      cases hl : Nat.beq ((cs.drop off).take m).length m with
      | false => simp only [hl] at h; cases h
      | true =>
        simp only [hl, cond_true, Option.some.injEq] at h
        have hl := Nat.eq_of_beq_eq_true hl
        have hr2 := relL_take m (relL_drop off hr)
        have hlen := relL_len hr2
        have hrun := run_loadAt' (P := P) (W := W) hn hg hgn (b := b) (off := off) (cs := (vs.drop off).take m) (by omega) (fun j v hj => by
          have : vs[off + j]? = some v := by
            rw [List.getElem?_take] at hj
            split at hj
            · rwa [List.getElem?_drop] at hj
            · cases hj
          simp [World.cell?, hw, this])
        refine ⟨⟨b, off, none⟩, mkV g ((vs.drop off).take m), e2, ?_, h ▸ mkV_rel hgn (by omega) hr2⟩
        simpa [Instr.loadAt, Instr.sureAddr] using hrun
    · cases h
  · cases h

def resSem (tmps : Array Value) : ResultVar → Sem Value
  | .tmp t => pure (tmps.getD t undef)
  | .cell a t => do loadVar t (← asAddr (tmps.getD a undef))

theorem resK_sound {w0 : Root} {W : World} {G0 : Hp} {n : Nat} {M : Nat → Prop} {E : Nat → Value} {σ : St} {a : Act} (hs : Sat w0 G0 n M E σ a W) : ∀ {rvs : List ResultVar} {rs : List IRes} {H : Nat → Option OB} {G : Hp} {K : List Value → HK}, compRes P rvs = some rs → Good w0 G0 M E W H G →
    resK σ rs H G K → ∃ vs H' G', (rvs.mapM (resSem a.tmps)).run P W = .ok vs W ∧ K vs H' G' ∧ Grow G G' ∧ Good w0 G0 M E W H' G'
  | [], rs, H, G, K, hc, hg, hk => by
    cases hc
    exact ⟨[], H, G, by simp, hk, Grow.refl _, hg⟩
  | .tmp t :: r, rs, H, G, K, hc, hg, hk => by
    simp only [compRes, Option.map_eq_some_iff] at hc
    obtain ⟨rs', hrs, rfl⟩ := hc
    simp only [resK] at hk
    split at hk
    · rename_i sv hsv
      obtain ⟨H1, G1, k1, g1, hg1⟩ := closeK_sound hg (resSV_run hs hsv) hk
      obtain ⟨vs, H2, G2, r2, k2, g2, hg2⟩ := resK_sound hs hrs hg1 k1
      exact ⟨_ :: vs, H2, G2, by simp [List.mapM_cons, resSem, r2], k2, g1.trans g2, hg2⟩
    · exact hk.elim
  | .cell t ty :: r, rs, H, G, K, hc, hg, hk => by
    simp only [compRes] at hc
    split at hc
    · rename_i m g rs' hn hag hrs
      cases hb : (g || Nat.beq m 1) with
      | false => rw [hb] at hc; cases hc
      | true =>
        rw [hb] at hc; cases hc
        simp only [resK] at hk
        split at hk
        · rename_i sv hsv
          obtain ⟨ad, v, e1, hrun, hrel⟩ := resSV_cell hs hn hag ((bool_or hb).imp id Nat.eq_of_beq_eq_true) hsv
          obtain ⟨H1, G1, k1, g1, hg1⟩ := closeK_sound hg hrel hk
          obtain ⟨vs, H2, G2, r2, k2, g2, hg2⟩ := resK_sound hs hrs hg1 k1
          exact ⟨v :: vs, H2, G2, by simp [List.mapM_cons, resSem, e1, asAddr, hrun, r2], k2, g1.trans g2, hg2⟩
        · exact hk.elim
    · cases hc

theorem wrapV_eq (vs : List Value) : wrapV vs = (if h : vs.toArray.size = 1 then vs.toArray[0] else .tuple vs.toArray) := by
  match vs with
  | [] => rfl
  | [v] => rfl
  | _ :: _ :: _ => simp [wrapV]

theorem results_run {fn : Func} {tmps : Array Value} {W : World} {vs : List Value} (h : (fn.results.toList.mapM (resSem tmps)).run P W = .ok vs W) : (results fn tmps).run P W = .ok (wrapV vs) W := by
  have e : results fn tmps = (fn.results.mapM (resSem tmps) >>= fun vs => pure (if h : vs.size = 1 then vs[0] else .tuple vs)) := by
    unfold results
    congr 1
  rw [e, Array.mapM_eq_mapM_toList]
  simp [Functor.map, Sem.run_bind', h, wrapV_eq]

theorem pubN_sound {w0 : Root} {W : World} {G0 : Hp} {M : Nat → Prop} {E : Nat → Value} : ∀ {hs : List Nat} {H : Nat → Option OB} {G : Hp} {A : HK}, Good w0 G0 M E W H G → pubN H G hs A → ∃ H' G', A H' G' ∧ Grow G G' ∧ Good w0 G0 M E W H' G'
  | [], H, G, A, hg, hk => ⟨H, G, hk.out, Grow.refl _, hg⟩
  | h :: r, H, G, A, hg, hk => by
    simp only [pubN] at hk
    split at hk
    case h_2 => exact hk.elim
    rename_i b cs t e
    obtain ⟨b', vs, e1, hb', hw, hrl, h1, e6⟩ := hg.sim.own h _ e
    have e6 : b = b' := e6
    subst e6
    obtain ⟨H1, G1, k1, g1, hg1⟩ := clK_sound hg hrl hk
    split at k1
    case h_2 => exact k1.elim
    rename_i b1 cs' t' eH1
    obtain ⟨b2, vs2, e2, hb2, hw2, hrl2, h12, e62⟩ := hg1.sim.own h _ eH1
    rw [e1] at e2
    injection e2 with e2
    injection e2 with e2
    injection e2 with e2 _
    subst e2
    have e62 : b1 = b := e62
    subst e62
    obtain ⟨G', p1, p2, p3⟩ := hg1.sim.publish (b := b1) (ob' := .cells (.pub b1) (vs.map .val) t) eH1 rfl (fun c ec => by rw [e1] at ec; simp [blkOf] at ec; exact ec.symm)
      ⟨b1, vs, e1, hb', hw, relL_vals E vs, h1, rfl⟩ (by rw [e1]; rfl)
    have hc : CellsAt G' b1 0 vs := by
      intro j v hj
      have := p2 b1 (by rw [e1]; rfl)
      rw [hw] at this
      simp only [rd1, this, Nat.zero_add]
      simpa using hj
    obtain ⟨H2, G2, k2, g2, hg2⟩ := pubN_sound (hg1.upd eH1 p3 (fun c hc => by obtain ⟨v, _, rfl⟩ := List.mem_map.1 hc; trivial)) (k1 G' p1 rfl hc)
    exact ⟨H2, G2, k2, (g1.trans p1).trans g2, hg2⟩

theorem resF_sound {w0 : Root} {W : World} {G0 : Hp} {n : Nat} {M : Nat → Prop} {E : Nat → Value} {σ : St} {a : Act} (hs : Sat w0 G0 n M E σ a W) {rvs : List ResultVar} {rs : List IRes} {K : List Value → HK} (hc : compRes P rvs = some rs)
    (hk : resF rs σ K) : ∃ vs H' G', (rvs.mapM (resSem a.tmps)).run P W = .ok vs W ∧ K vs H' G' ∧ Grow σ.G G' ∧ Good w0 G0 M E W H' G' := by
  unfold resF at hk
  cases hf : anyFn σ rs with
  | false => rw [hf] at hk; exact resK_sound hs hc ⟨hs.sim, hs.mH⟩ hk
  | true =>
    rw [hf] at hk
    obtain ⟨hs', hk⟩ := hk
    obtain ⟨H1, G1, k1, g1, hg1⟩ := pubN_sound ⟨hs.sim, hs.mH⟩ hk
    obtain ⟨vs, H2, G2, r1, k2, g2, hg2⟩ := resK_sound hs hc hg1 k1
    exact ⟨vs, H2, G2, r1, k2, g1.trans g2, hg2⟩

/-- The marks are taken; the results are read. -/
theorem SatE.leave {e : Env} (he : e.Ok P) {fn : Func} {n bd nn : Nat} {M0 : Nat → Prop} {E0 : Nat → Value} {R : Ending → World → Prop} {tmps : Array Value} {σ : St} : ∀ {ds : List Deferred} {a : Act} {W : World}, a.tmps = tmps → SatE e ds n bd M0 E0 σ a W →
    (∀ a' W', a'.tmps = tmps → SatE e [] n bd M0 E0 σ a' W' → ∃ v, (results fn tmps).run P W' = .ok v W' ∧ R (.returned v) W') → LeavesInM (FW none) nn P fn tmps R ds .returning W
  | [], a, W, ha, hs, h => h a W ha hs
  | d :: ds, a, W, ha, hs, h => by
    obtain ⟨M, E, e0, h1, h2, h3, h4, h5⟩ := hs.now he
    rw [e0] at h4 h5
    obtain ⟨D, rfl⟩ := h4.marks.each d (by simp)
    obtain ⟨d1, d2, d3⟩ := h4.marks.at_ D ⟨_, by simp, rfl⟩
    have hnd := List.pairwise_cons.1 h4.marks.nodup
    have other : ∀ b, b ≠ D → (W.putObj D (.deferred none)).heap[b]? = W.heap[b]? := fun b hb => World.putObj_heap_other hb
    have hsub : Sub σ.G (W.putObj D (.deferred none)) := fun b o hb => by
      rw [other b (fun e => by subst e; rw [d2] at hb; cases hb)]; exact h5.sim.sub b o hb
    have hnm : ¬ MarkB ds D := fun ⟨d, hd, e⟩ => hnd.1 d hd e.symm
    have hm : MarksAt ds (Hand E σ.H) σ.G W := ⟨fun d hd => h4.marks.each d (by simp [hd]), fun D' ⟨d, hd, e⟩ => h4.marks.at_ D' ⟨d, by simp [hd], e⟩, hnd.2⟩
    have hk : ∀ b, HdOf ⟨W, Hand E σ.H, ds⟩ σ.G b → (W.putObj D (.deferred none)).heap[b]? = W.heap[b]? ∧ σ.G b = none := fun b hb => by
      rcases hb with ⟨q1, q2⟩ | q
      · exact ⟨other b (fun e => d1 (e ▸ q1)), q2⟩
      · exact ⟨other b (fun e => hnm (e ▸ q)), (hm.at_ b q).2.1⟩
    obtain ⟨a1, a2, a3⟩ := Rooted.after (h5.sim.self ds) hm (Grow.refl _) hsub hk
    have hD : MarkB (⟨.collected D, #[]⟩ :: ds) D := ⟨_, by simp, rfl⟩
    have st : EnvStep (HdOf ⟨W, Hand E σ.H, ⟨.collected D, #[]⟩ :: ds⟩ σ.G) σ.G W (HdOf ⟨W.putObj D (.deferred none), Hand E σ.H, ds⟩ σ.G) σ.G (W.putObj D (.deferred none)) := by
      refine ⟨⟨rfl, rfl, rfl, by simp, fun k hk hn => other k (fun e => hn (.inr (e ▸ hD)))⟩, Grow.refl _, hsub, fun b o h => .inl h, ?_⟩
      rintro b (⟨q1, q2⟩ | ⟨d, hd, e⟩)
      · exact ⟨.inl (.inl ⟨q1, q2⟩), q2, (a3 b q1).1⟩
      · have := a2.at_ b ⟨d, hd, e⟩
        exact ⟨.inl (.inr ⟨d, by simp [hd], e⟩), this.2.1, (Array.getElem?_eq_some_iff.1 this.2.2).1⟩
    refine ⟨by simp, .inl ⟨D, _, rfl, run_takeDeferred d3, ?_⟩⟩
    refine SatE.leave he (a := { a with defers := ds }) ha ?_ h
    exact SatE.of (r := ⟨_, Hand E σ.H, ds⟩) (G0 := σ.G) h1 h2 h3 ⟨he.step h4.at_ st, fun b hb => (a3 b hb).1, hsub, a2⟩ (Grow.refl _) ⟨a1, h5.mfr, h5.mH, h5.fr, h5.size, rfl⟩

/-- What is known behind a function's results. -/
structure Done (e : Env) (p : SV) (M : Nat → Prop) (E : Nat → Value) (W : World) (H : Nat → Option OB) (G : Hp) : Prop where
  sim : Sim ⟨W, Hand E H, []⟩ G E H G W
  at_ : e.at_ p (HdOf ⟨W, Hand E H, []⟩ G) G W

/-- A call of a function, its code being walked; how its end is told, is open. -/
theorem body_end (T : Tab P) {e : Env} (he : e.Ok P) {f : FuncId} {fn : Func} {c : Code} {ic : IC} {b2 bd : Nat} (hf : P.funcs[f]? = some fn) (hb : fn.body = some c) (hc : compC P fn.ntmps c bd = some (ic, b2))
    {args : Array Value} {σ : St} {W : World} {E0 : Nat → Value} {End : St → Prop} {R : Ending → World → Prop}
    (hs : SatE e [] fn.ntmps bd (fun _ => False) E0 σ { tmps := args ++ Array.replicate (fn.ntmps - args.size) undef, defers := [] } W)
    (h : vc P T.get ⟨e.l, e.Y, []⟩ ic bd σ fun o _ σ => match o with
      | .norm => End σ
      | .ret => End σ
      | .exit _ => False)
    (hq : ∀ σ' a' W' M E, End σ' → Grow σ.G σ'.G → Rooted e (σ'.fr POS) ⟨W', Hand E σ'.H, []⟩ σ'.G → Sat ⟨W', Hand E σ'.H, []⟩ σ'.G fn.ntmps M E σ' a' W' → ∃ v, (results fn a'.tmps).run P W' = .ok v W' ∧ R (.returned v) W') : Calls P f args W R := by
  refine (callsIn_wide (n := 0)).1 (callsIn_of_wp_marks hf hb trivial ?_)
  have fin : ∀ {ds : List Deferred} {bd' : Nat} {σ' : St} {a' : Act} {W' : World}, End σ' → Grow σ.G σ'.G → SatE e ds fn.ntmps bd' (fun _ => False) E0 σ' a' W' → LeavesInM (FW none) 0 P fn a'.tmps R a'.defers .returning W' := fun {ds bd' σ' a' W'} hk hg hs' => by
    have hds : a'.defers = ds := by obtain ⟨M, E, e0, _⟩ := hs'.now he; exact e0
    rw [hds]
    refine hs'.leave he rfl ?_
    intro a2 W2 ha2 hs2
    obtain ⟨M, E, e0, h1, h2, h3, h4, h5⟩ := hs2.now he
    rw [e0] at h4 h5
    rw [← ha2]
    exact hq σ' a2 W2 M E hk hg h4 h5
  refine vc_sound T c he (rd := none) hc (Nat.le_refl _) (fun _ h => h.elim) (.inl rfl) hs h ?_
  intro o bd' σ' a' W' ds' _ hk _ _ hg hs'
  cases o with
  | norm => exact fin hk hg hs'
  | ret => exact fin hk hg hs'
  | exit id => exact hk.elim

/-- A call of a function, its code being walked. -/
theorem body_sound (T : Tab P) {e : Env} (he : e.Ok P) {f : FuncId} {fn : Func} {c : Code} {ic : IC} {b2 bd : Nat} {rs : List IRes} (hf : P.funcs[f]? = some fn) (hb : fn.body = some c) (hc : compC P fn.ntmps c bd = some (ic, b2)) (hr : compRes P fn.results.toList = some rs)
    {args : Array Value} {σ : St} {W : World} {E0 : Nat → Value} {K : St → List Value → HK} {R : Ending → World → Prop}
    (hs : SatE e [] fn.ntmps bd (fun _ => False) E0 σ { tmps := args ++ Array.replicate (fn.ntmps - args.size) undef, defers := [] } W)
    (h : vc P T.get ⟨e.l, e.Y, []⟩ ic bd σ fun o _ σ => match o with
      | .norm => resF rs σ (K σ)
      | .ret => resF rs σ (K σ)
      | .exit _ => False)
    (hq : ∀ σ' W' M E vs H' G', K σ' vs H' G' → Grow σ.G G' → Done e (σ'.fr POS) M E W' H' G' → R (.returned (wrapV vs)) W') : Calls P f args W R := by
  refine body_end T he hf hb hc hs h ?_
  intro σ' a' W' M E hk hg h4 h5
  obtain ⟨vs, H', G', r1, k1, g1, hg1⟩ := resF_sound h5 hr hk
  obtain ⟨q1, q2⟩ := h4.now he g1 hg1.sim
  exact ⟨_, results_run r1, hq σ' W' M E vs H' G' k1 (hg.trans g1) ⟨q2, q1.at_⟩⟩

/-- Who calls a function of its own knows: nothing older has changed but what is lent. -/
def baseEnv (ln : Nat → Prop) (G : Hp) (W : World) : Env :=
  ⟨0, [], fun _ Hd G' W' => Beneath ⟨W, ln, []⟩ W' ∧ (∀ b o, G' b = some o → G b = some o ∨ W.heap.size ≤ b ∨ ln b) ∧ ∀ b, Hd b → W.heap.size ≤ b ∨ ln b, fun _ Hd G' W' => Beneath ⟨W, ln, []⟩ W' ∧ (∀ b o, G' b = some o → G b = some o ∨ W.heap.size ≤ b ∨ ln b) ∧ ∀ b, Hd b → W.heap.size ≤ b ∨ ln b⟩
theorem baseEnv_ok {ln : Nat → Prop} {G : Hp} {W : World} : (baseEnv ln G W).Ok P := by
  have st : Stable (baseEnv ln G W).J := by
    rintro k Hd G1 W1 Hd' G2 W2 ⟨h1, h2, h3⟩ s
    refine ⟨⟨s.beneath.os.trans h1.os, s.beneath.tape.trans h1.tape, s.beneath.output.trans h1.output, Nat.le_trans h1.size s.beneath.size, fun k hk hn => ?_⟩, ?_, ?_⟩
    · exact (s.beneath.block k (Nat.lt_of_lt_of_le hk h1.size) (fun h => (h3 k h).elim (fun h => by have : k < W.heap.size := hk; omega) hn)).trans (h1.block k hk hn)
    · intro b o h
      rcases s.newG b o h with h | h | h
      · exact h2 b o h
      · exact .inr (h3 b h)
      · exact .inr (.inl (Nat.le_trans h1.size h))
    · intro b h
      rcases (s.hd b h).1 with h | h
      · exact h3 b h
      · exact .inl (Nat.le_trans h1.size h)
  exact ⟨st, st, fun k args _ _ _ h => by simp [baseEnv] at h⟩
theorem baseEnv_at {ln : Nat → Prop} {G : Hp} {W : World} {sv : SV} {Hd : Nat → Prop} {G' : Hp} {W' : World} : (baseEnv ln G W).at_ sv Hd G' W' ↔ Beneath ⟨W, ln, []⟩ W' ∧ (∀ b o, G' b = some o → G b = some o ∨ W.heap.size ≤ b ∨ ln b) ∧ ∀ b, Hd b → W.heap.size ≤ b ∨ ln b := by
  unfold Env.at_
  split
  · rename_i k st; cases st <;> exact Iff.rfl
  · exact Iff.rfl

/-- What is asked of the code of a function. -/
def funVC (P : Program) (tab : FuncId → Option PSpec) (ic : IC) (rs : List IRes) (args : List Value) (G : Hp) (K : Value → Hp → Prop) : Prop :=
  vc P tab (.no []) ic 0 ⟨argFr args, fun _ => none, G⟩ fun o _ σ => match o with
    | .norm => finK rs σ K
    | .ret => finK rs σ K
    | .exit _ => False

/-- What is asked of the code of an iterator, or a part of one. -/
def posE (sv : SV) (f : Nat → Bool → Prop) : Prop := match sv with
  | .c (.pos j st) => f j st
  | _ => False
def seqVC (P : Program) (tab : FuncId → Option PSpec) (yc : YC) (k : Nat) (ic : IC) (rs : List IRes) (args : List Value) (G : Hp) (K : Value → Nat → Bool → Prop) : Prop :=
  vc P tab yc ic 0 ⟨upd (argFr args) POS (.c (.pos k false)), fun _ => none, G⟩ fun o _ σ => match o with
    | .norm => finK rs σ fun v _ => posE (σ.fr POS) (K v)
    | .ret => finK rs σ fun v _ => posE (σ.fr POS) (K v)
    | .exit _ => False

theorem args_frame {args : List Value} {n : Nat} (E : Nat → Value) (i : Nat) : (argFr args i).rel E ((args.toArray ++ Array.replicate (n - args.toArray.size) undef).getD i undef) := by
  have h1 := argFr_rel E args i
  have : (args.toArray ++ Array.replicate (n - args.toArray.size) undef).getD i undef = args[i]?.getD undef := by
    rw [Array.getD_eq_getD_getElem?, Array.getElem?_append]
    split
    · simp
    · rename_i hlt
      have : args[i]? = none := List.getElem?_eq_none_iff.2 (by simpa using hlt)
      rw [this, Array.getElem?_replicate]
      split <;> rfl
  rw [this]; exact h1

theorem sat_start {n : Nat} {args : List Value} (hn : args.length ≤ n) {G : Hp} {W : World} (hsub : Sub G W) {fr : Nat → SV} (hfr : ∀ i, fr i = argFr args i ∨ ∃ k st, fr i = .c (.pos k st)) : Sat (Root.of W) G n (fun k => k < 0) (fun _ => undef) ⟨fr, fun _ => none, G⟩ { tmps := args.toArray ++ Array.replicate (n - args.toArray.size) undef, defers := [] } W := by
  refine ⟨⟨Beneath.refl _, hsub, fun b o h => .inl h, fun _ _ e => (by cases e), fun _ _ _ e => (by cases e), fun _ _ e => (by cases e), fun _ _ _ _ _ e => (by cases e)⟩, fun i => ?_, fun _ _ e => (by cases e), fun i => ?_, by simp; omega, rfl⟩
  · rcases hfr i with h | ⟨k, st, h⟩
    · simp only [h]; exact argFr_ment _ args i
    · simp only [h]; trivial
  · rcases hfr i with h | ⟨k, st, h⟩
    · simp only [h]; exact args_frame _ i
    · simp only [h]; trivial

theorem HdOf_start {W : World} {G : Hp} {b : Nat} : ¬ HdOf (Root.of W) G b := fun h => h.elim (fun h => h.1) (fun ⟨d, hd, _⟩ => by cases hd)
theorem marks_start {W : World} {G : Hp} {ln : Nat → Prop} : MarksAt [] ln G W := ⟨fun d hd => (by cases hd), (fun D ⟨d, hd, _⟩ => by cases hd), List.Pairwise.nil⟩

/-- A function's code, in the intermediate form. -/
structure Comp (P : Program) (f : FuncId) (ic : IC) (rs : List IRes) (nt : Nat) : Prop where
  ex : ∃ fn c b2, P.funcs[f]? = some fn ∧ fn.body = some c ∧ compC P fn.ntmps c 0 = some (ic, b2) ∧ compRes P fn.results.toList = some rs ∧ fn.ntmps = nt

theorem Comp.calls {f : FuncId} {ic : IC} {rs : List IRes} {nt : Nat} (C : Comp P f ic rs nt) (T : Tab P) {args : List Value} {G : Hp} {W : World} {K : Value → Hp → Prop} (hn : args.length ≤ nt) (hsub : Sub G W) (h : funVC P T.get ic rs args G K) :
    Calls P f args.toArray W fun e W' => ∃ v G', e = .returned v ∧ K v G' ∧ Grow G G' ∧ Sub G' W' ∧ (∀ b o, G' b = some o → G b = some o ∨ W.heap.size ≤ b) ∧ Below W.heap.size W W' := by
  obtain ⟨fn, c, b2, h1, h2, h3, h4, rfl⟩ := C.ex
  have hs : SatE (baseEnv (fun _ => False) G W) [] fn.ntmps 0 (fun _ => False) (fun _ => undef) ⟨argFr args, fun _ => none, G⟩ { tmps := args.toArray ++ Array.replicate (fn.ntmps - args.toArray.size) undef, defers := [] } W :=
    SatE.of (r := Root.of W) (G0 := G) (fun _ h => h) (fun _ h => h.elim) (Agree.refl _ _) ⟨baseEnv_at.2 ⟨Beneath.refl _, fun b o h => .inl h, fun b h => (HdOf_start h).elim⟩, fun b hb => hb.elim, hsub, marks_start⟩ (Grow.refl _) (sat_start hn hsub (fun i => .inl rfl))
  refine body_sound T baseEnv_ok h1 h2 h3 h4 (K := fun _ vs _ G => FinP (K (wrapV vs) G)) hs h ?_
  intro σ' W' M E vs H' G' hk hg hd
  obtain ⟨q1, q2, _⟩ := baseEnv_at.1 hd.at_
  exact ⟨_, G', rfl, hk.out, hg, hd.sim.sub, fun b o e => (q2 b o e).imp id (fun h => h.resolve_right id), Beneath.below (w := W) q1⟩

theorem Comp.seq {f : FuncId} {ic : IC} {rs : List IRes} {nt : Nat} (C : Comp P f ic rs nt) (T : Tab P) {sh : List Value → List Value} {pre : Nat → List Value → Hp → List (List Value) → Prop} {post : Bool → Value → Prop} (hn : ∀ l args G Ys, pre l args G Ys → (sh args).length ≤ nt)
    (h : ∀ l Y k args G Ys, pre l args G Ys → (Y.drop k).take Ys.length = Ys → seqVC P T.get ⟨l, Y, []⟩ k ic rs (sh args) G fun v j st => post st v ∧ (st = false → j = k + Ys.length)) : Sound P f sh (.seq pre post) := by
  intro e he args G W Ys k hsub hpre hseg hJ
  obtain ⟨fn, c, b2, h1, h2, h3, h4, rfl⟩ := C.ex
  have hs : SatE e [] fn.ntmps 0 (fun _ => False) (fun _ => undef) ⟨upd (argFr (sh args)) POS (.c (.pos k false)), fun _ => none, G⟩ { tmps := (sh args).toArray ++ Array.replicate (fn.ntmps - (sh args).toArray.size) undef, defers := [] } W := by
    refine SatE.of (r := Root.of W) (G0 := G) (fun _ h => h) (fun _ h => h.elim) (Agree.refl _ _) ⟨?_, fun b hb => hb.elim, hsub, marks_start⟩ (Grow.refl _) (sat_start (hn _ _ _ _ hpre) hsub (fun i => ?_))
    · simp only [upd_same]
      exact he.st _ _ _ _ _ _ _ hJ (EnvStep.shrink hsub fun b hb => (HdOf_start hb).elim)
    · by_cases hi : i = POS
      · rw [hi, upd_same]; exact .inr ⟨k, false, rfl⟩
      · rw [upd_other _ _ hi]; exact .inl rfl
  refine body_sound T he h1 h2 h3 h4 (K := fun σ vs _ G => FinP (posE (σ.fr POS) fun j st => post st (wrapV vs) ∧ (st = false → j = k + Ys.length))) hs (h e.l e.Y k args G Ys hpre hseg) ?_
  intro σ' W' M E vs H' G' hk hg hd
  have hk := hk.out
  unfold posE at hk
  split at hk
  case h_2 => exact hk.elim
  rename_i j st hp
  have hat := hd.at_
  rw [hp] at hat
  have hat : (cond st e.Jx e.J) j (HdOf ⟨W', Hand E H', []⟩ G') G' W' := hat
  refine ⟨_, st, j, G', rfl, hk.1, hg, hd.sim.sub, hk.2, ?_⟩
  have sh := EnvStep.shrink (Hd := HdOf ⟨W', Hand E H', []⟩ G') (Hd' := fun _ => False) hd.sim.sub fun b hb => hb.elim
  cases st
  · exact he.st _ _ _ _ _ _ _ hat sh
  · exact he.stx _ _ _ _ _ _ _ hat sh
/-- A fresh row is handed over. -/
structure OwnFin (p : Prop) : Prop where
  out : p
def ownK (t : TypeId) (k : Nat) (rs : List IRes) (σ : St) (K : Nat → List Value → Hp → Prop) : Prop := match rs with
  | [.tmp i] => match σ.fr i with
    | .c (.row h n) => match σ.H h with
      | some (.row none n' vs t' k') => OwnFin (t' = t ∧ k' = k ∧ n' = n ∧ K n' vs σ.G)
      | _ => False
    | .c (.val (.slice none 0 0)) => OwnFin (K 0 [] σ.G)
    | _ => False
  | _ => False
def ownVC (P : Program) (tab : FuncId → Option PSpec) (t : TypeId) (k : Nat) (ic : IC) (rs : List IRes) (args : List Value) (G : Hp) (K : Nat → List Value → Hp → Prop) : Prop :=
  vc P tab (.no []) ic 0 ⟨argFr args, fun _ => none, G⟩ fun o _ σ => match o with
    | .norm => ownK t k rs σ K
    | .ret => ownK t k rs σ K
    | .exit _ => False
theorem Comp.owns {f : FuncId} {ic : IC} {rs : List IRes} {nt : Nat} (C : Comp P f ic rs nt) (T : Tab P) {t : TypeId} {k : Nat} {args : List Value} {G : Hp} {W : World} {K : Nat → List Value → Hp → Prop} (hn : args.length ≤ nt) (hsub : Sub G W)
    (h : ownVC P T.get t k ic rs args G K) : Calls P f args.toArray W fun e W' =>
      ∃ v n vs G', e = .returned v ∧ K n vs G' ∧ (∃ a c, v = .slice a n c) ∧ W'.ownsRow W.heap.size t k v n vs ∧ (∀ u ∈ vs, u.oneCell' = true) ∧ (∀ b, blkOf v = some b → G' b = none) ∧
        Grow G G' ∧ Sub G' W' ∧ (∀ b o, G' b = some o → G b = some o ∨ W.heap.size ≤ b) ∧ Below W.heap.size W W' := by
  obtain ⟨fn, c, b2, h1, h2, h3, h4, rfl⟩ := C.ex
  have hs : SatE (baseEnv (fun _ => False) G W) [] fn.ntmps 0 (fun _ => False) (fun _ => undef) ⟨argFr args, fun _ => none, G⟩ { tmps := args.toArray ++ Array.replicate (fn.ntmps - args.toArray.size) undef, defers := [] } W :=
    SatE.of (r := Root.of W) (G0 := G) (fun _ h => h) (fun _ h => h.elim) (Agree.refl _ _) ⟨baseEnv_at.2 ⟨Beneath.refl _, fun b o h => .inl h, fun b h => (HdOf_start h).elim⟩, fun b hb => hb.elim, hsub, marks_start⟩ (Grow.refl _) (sat_start hn hsub (fun i => .inl rfl))
  refine body_end T baseEnv_ok h1 h2 h3 hs h ?_
  intro σ' a' W' M E hk hg h5 h6
  obtain ⟨q1, q2, q3⟩ := baseEnv_at.1 h5.at_
  have fin : ∀ {i : Nat} {v : Value} {n : Nat} {vs : List Value}, rs = [.tmp i] → a'.tmps.getD i undef = v → (∃ a c, v = .slice a n c) → W'.ownsRow W.heap.size t k v n vs → (∀ u ∈ vs, u.oneCell' = true) → (∀ b, blkOf v = some b → σ'.G b = none) → K n vs σ'.G →
      ∃ v, (results fn a'.tmps).run P W' = .ok v W' ∧ ∃ v2 n vs G', Ending.returned v = .returned v2 ∧ K n vs G' ∧ (∃ a c, v2 = .slice a n c) ∧ W'.ownsRow W.heap.size t k v2 n vs ∧ (∀ u ∈ vs, u.oneCell' = true) ∧ (∀ b, blkOf v2 = some b → G' b = none) ∧ Grow G G' ∧ Sub G' W' ∧ (∀ b o, G' b = some o → G b = some o ∨ W.heap.size ≤ b) ∧ Below W.heap.size W W' := fun {i v n vs} hrs hv hsl hown hone hpr hpost => by
    have hrv : fn.results.toList = [.tmp i] := by
      rw [hrs] at h4
      cases hr : fn.results.toList with
      | nil => rw [hr] at h4; simp [compRes] at h4
      | cons x r =>
        rw [hr] at h4
        cases x with
        | tmp t' =>
          simp only [compRes, Option.map_eq_some_iff] at h4
          obtain ⟨rs', e1, e2⟩ := h4
          injection e2 with e2 e3
          injection e2 with e2
          subst e2 e3
          cases r with
          | nil => rfl
          | cons y r' =>
            cases y with
            | tmp t2 => simp [compRes] at e1
            | cell t2 ty =>
              simp only [compRes] at e1
              split at e1
              · cases (cond_inj e1)
              · cases e1
        | cell t' ty =>
          simp only [compRes] at h4
          split at h4
          · cases (cond_inj h4)
          · cases h4
    refine ⟨v, ?_, v, n, vs, σ'.G, rfl, hpost, hsl, hown, hone, hpr, hg, h6.sim.sub, fun b o e => (q2 b o e).imp id (fun h => h.resolve_right id), Beneath.below (w := W) q1⟩
    have := results_run (P := P) (W := W') (fn := fn) (tmps := a'.tmps) (vs := [v]) (by rw [hrv]; simp [List.mapM_cons, resSem, ← hv])
    exact this
  unfold ownK at hk
  split at hk
  case h_2 => exact hk.elim
  rename_i i
  have hf := h6.fr i
  split at hk
  · rename_i h' n e'
    rw [e'] at hf
    obtain ⟨hf, a0, c0, hE⟩ := hf
    split at hk
    case h_2 => exact hk.elim
    rename_i n' vs t' k' eH
    obtain ⟨rfl, rfl, rfl, hpost⟩ := hk.out
    obtain ⟨hown, hone, hmine⟩ := h6.sim.own h' _ eH
    have hpr := h6.sim.priv h' _ eH rfl
    refine fin rfl hf ⟨a0, c0, hE⟩ ⟨hown.1, ?_⟩ hone hpr hpost
    rcases hown.2 with h | ⟨g, cap, cur, r1, r2, r3⟩
    · exact .inl h
    · refine .inr ⟨g, cap, cur, r1, ?_, r3⟩
      have hb : blkOf (E h') = some g := by rw [r1]; rfl
      exact (q3 g (.inl ⟨⟨h', _, eH, hb⟩, hpr g hb⟩)).resolve_right id
  · rename_i e'
    rw [e'] at hf
    have hf : a'.tmps.getD i undef = .slice none 0 0 := hf
    exact fin rfl hf ⟨none, 0, rfl⟩ ⟨by simp, .inl ⟨rfl, rfl⟩⟩ (fun u hu => by cases hu) (fun b hb => by cases hb) hk.out
  · exact hk.elim

theorem Comp.own {f : FuncId} {ic : IC} {rs : List IRes} {nt : Nat} (C : Comp P f ic rs nt) (T : Tab P) {sh : List Value → List Value} {t : TypeId} {k : Nat} {pre : List Value → Hp → Prop} {post : List Value → Nat → List Value → Hp → Prop} (hn : ∀ args G, pre args G → (sh args).length ≤ nt)
    (hm : ∀ args n vs G G', Grow G G' → post args n vs G → post args n vs G') (h : ∀ args G, pre args G → ownVC P T.get t k ic rs (sh args) G fun n vs G' => post args n vs G') : Sound P f sh (.own t k pre post) :=
  ⟨hm, fun args G W hsub hp => C.owns T (hn args G hp) hsub (h args G hp)⟩

theorem Comp.fn {f : FuncId} {ic : IC} {rs : List IRes} {nt : Nat} (C : Comp P f ic rs nt) (T : Tab P) {sh : List Value → List Value} {pre : List Value → Hp → Prop} {val : List Value → Value} (hn : ∀ args G, pre args G → (sh args).length ≤ nt)
    (h : ∀ args G, pre args G → funVC P T.get ic rs (sh args) G fun v _ => v = val args) : Sound P f sh (.fn pre val) := fun args G W hs hp =>
  (C.calls T (hn args G hp) hs (h args G hp)).mono fun e W' ⟨v, _, h1, h2, _, _, _, h3⟩ => ⟨h2 ▸ h1, h3⟩
theorem Comp.sca {f : FuncId} {ic : IC} {rs : List IRes} {nt : Nat} (C : Comp P f ic rs nt) (T : Tab P) {sh : List Value → List Value} {pre : List Value → Hp → Prop} {post : List Value → Hp → Value → Prop} (hn : ∀ args G, pre args G → (sh args).length ≤ nt)
    (h : ∀ args G, pre args G → funVC P T.get ic rs (sh args) G fun v _ => post args G v) : Sound P f sh (.sca pre post) := fun args G W hs hp =>
  (C.calls T (hn args G hp) hs (h args G hp)).mono fun e W' ⟨v, _, h1, h2, _, _, _, h3⟩ => ⟨v, h1, h2, h3⟩
theorem Comp.rel {f : FuncId} {ic : IC} {rs : List IRes} {nt : Nat} (C : Comp P f ic rs nt) (T : Tab P) {sh : List Value → List Value} {pre : List Value → Hp → Prop} {post : List Value → Value → Hp → Prop} (hn : ∀ args G, pre args G → (sh args).length ≤ nt)
    (hm : ∀ args v G G', Grow G G' → post args v G → post args v G') (h : ∀ args G, pre args G → funVC P T.get ic rs (sh args) G fun v G' => post args v G') : Sound P f sh (.rel pre post) :=
  ⟨hm, fun args G W hs hp => C.calls T (hn args G hp) hs (h args G hp)⟩

end
end Go.Pal
