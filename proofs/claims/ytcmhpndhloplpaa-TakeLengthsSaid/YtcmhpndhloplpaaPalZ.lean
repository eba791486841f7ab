/- What is asked of code is enough: all of it. -/
import Derived.Test.YtcmhpndhloplpaaPalX
namespace Go.Pal
open Go.RowKit

section
variable {P : Program} {n : Nat}

theorem run_callFunc {f : FuncId} (hb : HasBody P f) (args : Array Value) (w : World) : (callFunc f args).run P w = .ok (.enter f args) w := by
  obtain ⟨fn, hf, hb, hn⟩ := hb
  have hn' : ¬ fn.name = "runtime.NumGoroutine" := by simpa using hn
  have hb' : fn.body ≠ none := by intro e; rw [e] at hb; cases hb
  simp [callFunc, hf, hb', hn']

/-- The record of a loop. -/
def mkRec (fn : FuncId) (tmps : Array Value) (ps : Array Tmp) (x y : Code) (D : Nat) (st : LoopState) (pe : Option Code) : Obj := .loop { state := st, pending := pe, fn := fn, tmps := tmps, params := ps, assign := x, body := y, defers := D }

def J2 (A : Nat → Prop) (e : Env) (p0 : SV) (ds : List Deferred) (l : Nat) (o : Obj) (I : RInv) (G : Hp) (E : Nat → Value) : JT := fun k Hd G1 W1 =>
  ∃ x E1, I.k x = k ∧ I.ok x G1 ∧ Grow G G1 ∧ Agree A E E1 ∧ Core e p0 ds l o E1 (HOf (I.H x)) Hd G1 W1
def J2x (A : Nat → Prop) (e : Env) (p0 : SV) (ds : List Deferred) (l : Nat) (o : Code → Obj) (fl : List (Nat × SV)) (K : Out → Nat → St → Prop) (G : Hp) (bd b2 : Nat) (E : Nat → Value) : JT := fun _ Hd G1 W1 =>
  ∃ (ou : Out) (c : Code) (bd2 : Nat) (H : Nat → Option OB) (E1 : Nat → Value), ((ou = .ret ∧ c = .ret) ∨ ∃ id, ou = .exit id ∧ c = .exit id) ∧ (∀ G2, Grow G1 G2 → K ou bd2 ⟨frOf fl, H, G2⟩) ∧ bd ≤ bd2 ∧ bd2 ≤ b2 ∧ (∀ h ob, H h = some ob → h < bd2 ∧ ob.ment (· < bd2)) ∧ Grow G G1 ∧ Agree A E E1 ∧ Core e p0 ds l (o c) E1 H Hd G1 W1

theorem J2_stable {A : Nat → Prop} {e : Env} (he : e.Ok P) {p0 : SV} {ds : List Deferred} {l : Nat} {o : Obj} {I : RInv} {G : Hp} {E : Nat → Value} (hm : ∀ x G G', Grow G G' → I.ok x G → I.ok x G') : Stable (J2 A e p0 ds l o I G E) := by
  rintro k Hd G1 W1 Hd' G2 W2 ⟨x, E1, h1, h2, h3, h4, h5⟩ s
  exact ⟨x, E1, h1, hm x _ _ s.grow h2, h3.trans s.grow, h4, h5.step he s⟩
theorem J2x_stable {A : Nat → Prop} {e : Env} (he : e.Ok P) {p0 : SV} {ds : List Deferred} {l : Nat} {o : Code → Obj} {fl : List (Nat × SV)} {K : Out → Nat → St → Prop} {G : Hp} {bd b2 : Nat} {E : Nat → Value} : Stable (J2x A e p0 ds l o fl K G bd b2 E) := by
  rintro k Hd G1 W1 Hd' G2 W2 ⟨ou, c, bd2, H, E1, h1, h2, h3, h4, h5, h6, h7, h8⟩ s
  exact ⟨ou, c, bd2, H, E1, h1, fun G3 hg => h2 G3 (s.grow.trans hg), h3, h4, h5, h6.trans s.grow, h7, h8.step he s⟩

theorem zip_fold (ps : Array Nat) (ys : List Value) (tm : Array Value) : (ps.zip ys.toArray).foldl (fun tmps (t, a) => tmps.setIfInBounds t a) tm = (ps.toList.zip ys).foldl (fun t q => t.setIfInBounds q.1 q.2) tm := by
  rw [← Array.foldl_toList]
  simp [Array.toList_zip]

theorem HBd_all {b : Nat} {l : List (Nat × OB)} (h : HBd b l = true) : ∀ i ob, HOf l i = some ob → i < b ∧ ob.ment (· < b) := HBd_ment h

/-- The rounds of a loop over an iterator. -/
theorem range_rounds {pb : List Nat} {A : Nat → Prop} {e : Env} (he : e.Ok P) {p0 : SV} {ds : List Deferred} {l D : Nat} {fn : FuncId} {a : Act} {ps : Array Tmp} {x y : Code} {ic jc : IC} {b b1 b2 bd : Nat} {E : Nat → Value} {G : Hp} {K : Out → Nat → St → Prop} {I : RInv} {Ys : List (List Value)} {tab : FuncId → Option PSpec}
    (ihx : ∀ {W1 : World} {Hd : Nat → Prop} {E1 : Nat → Value} {σ : St} {a1 : Act} {K : Out → Nat → St → Prop} {Q : Exit → Act → World → Prop}, SatE (bodyEnv e p0 ds l Hd W1) [] n bd A E1 σ a1 W1 → vc P tab (.no (mentFr I.fr ++ pb)) ic bd σ K → (∀ o bd' σ' a' W', K o bd' σ' → bd ≤ bd' → bd' ≤ b1 → Grow σ.G σ'.G → SatE (bodyEnv e p0 ds l Hd W1) [] n bd' A E1 σ' a' W' → Q (exitOf o) a' W') → x.wpIn (FW (some l)) 0 P Q a1 W1)
    (ihy : ∀ {W1 : World} {Hd : Nat → Prop} {E1 : Nat → Value} {bd1 : Nat} {σ : St} {a1 : Act} {K : Out → Nat → St → Prop} {Q : Exit → Act → World → Prop}, bd1 ≤ b1 → SatE (bodyEnv e p0 ds l Hd W1) [] n bd1 A E1 σ a1 W1 → vc P tab (.no (mentFr I.fr ++ pb)) jc bd1 σ K → (∀ o bd' σ' a' W', K o bd' σ' → bd1 ≤ bd' → bd' ≤ b2 → Grow σ.G σ'.G → SatE (bodyEnv e p0 ds l Hd W1) [] n bd' A E1 σ' a' W' → Q (exitOf o) a' W') → y.wpIn (FW (some l)) 0 P Q a1 W1)
    (hfb : frBd bd I.fr = true) (hpbd : ∀ k, A k → k < bd) (hAm : ∀ k ∈ mentFr I.fr, A k) (hAp : ∀ k, A k → k ∈ mentFr I.fr ++ pb) (hfr : ∀ i, (frOf I.fr i).rel E (a.tmps.getD i undef)) (hsz : a.tmps.size = n) (hps : ∀ p ∈ ps.toList, p < n) (hlen : ∀ y ∈ Ys, y.length = ps.toList.length) (hbd : ∀ x, HBd bd (I.H x) = true)
    (hround : ∀ x y G1, Grow G G1 → I.ok x G1 → Ys[I.k x]? = some y → W (vc P tab (.no (mentFr I.fr ++ pb)) ic bd ⟨updP (upd (frOf I.fr) POS (.c .any)) ps.toList y, HOf (I.H x), G1⟩ fun o bd' σ' => match o with
        | .norm => vc P tab (.no (mentFr I.fr ++ pb)) jc bd' σ' fun o bd2 σ2 => match o with
          | .norm => RoundR (mentFr I.fr ++ pb) I x σ2
          | .exit id => ExitR σ2.G fun G => K (.exit id) bd2 ⟨frOf I.fr, σ2.H, G⟩
          | .ret => ExitR σ2.G fun G => K .ret bd2 ⟨frOf I.fr, σ2.H, G⟩
        | _ => False)) :
    YieldOk P l Ys (J2 A e p0 ds l (mkRec fn a.tmps ps x y D .ready none) I G E) (J2x A e p0 ds l (fun c => mkRec fn a.tmps ps x y D .done (some c)) I.fr K G bd b2 E) := by
  rintro k args Hd G1 W1 hY ⟨x0, E1, hk, hok, hgr, hag, core⟩ hsub hHd
  have hal : args.length = ps.size := by rw [hlen args (List.mem_of_getElem? hY)]; simp
  have hy := run_yield (P := P) (args := args.toArray) core.rec_.1 (by simpa using hal)
  refine ⟨fn, _, x, y, hy, ?_⟩
  have hm1 : ∀ i, (updP (upd (frOf I.fr) POS (.c .any)) ps.toList args i).ment (· < bd) := updP_ment _ _ _ (fun i => by
    by_cases hi : i = POS
    · rw [hi, upd_same]; trivial
    · rw [upd_other _ _ hi]; exact frBd_ment hfb i)
  have hr1 := updP_rel (E := E1) ps.toList args (upd (frOf I.fr) POS (.c .any)) a.tmps (fun p hp => by rw [hsz]; exact hps p hp) (fun i => by
    by_cases hi : i = POS
    · rw [hi, upd_same]; trivial
    · rw [upd_other _ _ hi]; exact SV.rel_agree (hfr i) (SV.ment_mono hAm (mentFr_ment (fun k hk => hk) i)) hag)
  refine roundIn_of_wpIn (F := Fence.wide) trivial ?_
  have hs1 := core.toBody he (n := n) (bd := bd) (fr := updP (upd (frOf I.fr) POS (.c .any)) ps.toList args) (a := { tmps := (ps.zip args.toArray).foldl (fun tmps (t, a) => tmps.setIfInBounds t a) a.tmps, defers := [] }) hm1 (HBd_all (hbd x0)) (by rw [zip_fold]; exact hr1.1) (by show Array.size _ = n; rw [zip_fold, hr1.2]; exact hsz) rfl (M0 := A) hpbd
  refine ihx hs1 (hround x0 args G1 hgr hok (by rw [hk]; exact hY)).out ?_
  rintro o bd' σ' a' W' hk' hle' hle hg' hs'
  cases o with
  | exit id => exact hk'.elim
  | ret => exact hk'.elim
  | norm =>
    obtain ⟨M3, E3, m0, m1, m2, m3, core3, m4, m5, m6, m7, m9, m8⟩ := core.fromBody he hs'
    refine ⟨_, run_beginRound core3.rec_.1 rfl, ?_⟩
    have core4 := core3.setRec he (mkRec fn a.tmps ps x y D .busy none)
    have m8' : ∀ b, Hd b → (W'.putObj l (mkRec fn a.tmps ps x y D .busy none)).heap[b]? = W1.heap[b]? ∧ σ'.G b = none := fun b hb => ⟨(World.putObj_heap_other (core3.hd b hb).2.1).trans (m8 b hb).1, (m8 b hb).2⟩
    -- the body's own view, of the world as it lies now
    have hs4 : SatE (bodyEnv e p0 ds l Hd (W'.putObj l (mkRec fn a.tmps ps x y D .busy none))) [] n bd' A E3 σ' a' (W'.putObj l (mkRec fn a.tmps ps x y D .busy none)) := by
      exact core4.toBody he (n := n) (bd := bd') (fr := σ'.fr) (a := a') (fun i => SV.ment_mono m1 (m5 i)) (fun h ob e => ⟨m1 h (m4 h ob e).1, OB.ment_mono m1 (m4 h ob e).2⟩) m6 m7 m0 (fun k hk => Nat.lt_of_lt_of_le (hpbd k hk) hle')
    have hwp := ihy (Q := roundPost P l fun e_1 W' => ∃ st G', e_1 = Ending.returned (Value.bool !st) ∧ Grow G1 G' ∧ Sub G' W' ∧ (∀ b, Hd b → W'.heap[b]? = W1.heap[b]? ∧ G' b = none) ∧ W1.heap.size ≤ W'.heap.size ∧
        (cond st (J2x A e p0 ds l (fun c => mkRec fn a.tmps ps x y D .done (some c)) I.fr K G bd b2 E) (J2 A e p0 ds l (mkRec fn a.tmps ps x y D .ready none) I G E)) (k + 1) Hd G' W') hle hs4 hk' ?_
    · exact hwp
    rintro o bd2 σ2 a2 W2 hk2 hle2' hle2 hg2 hs2
    obtain ⟨M6, E6, n0, n1, n2, n3, core6, n4, n5, n6, n7, n9, n8⟩ := core4.fromBody he hs2
    have hkeep : ∀ o', ∀ b, Hd b → (W2.putObj l o').heap[b]? = W1.heap[b]? ∧ σ2.G b = none := fun o' b hb => ⟨(World.putObj_heap_other (core6.hd b hb).2.1).trans ((n8 b hb).1.trans (m8' b hb).1), (n8 b hb).2⟩
    have hgG : Grow G1 σ2.G := hg'.trans hg2
    have hagE : Agree A E E6 := fun k hk => (n3 k hk).trans ((m3 k hk).trans (hag k hk))
    have hsz : W1.heap.size ≤ W2.heap.size := by rw [World.putObj_size] at n9; exact Nat.le_trans m9 n9
    have fin : ∀ jump, (Instr.endRound l jump).run P W2 = .ok (.bool jump.isNone) (W2.putObj l (mkRec fn a.tmps ps x y D (if jump.isNone then .ready else .done) jump)) := fun jump => run_endRound jump core6.rec_.1
    have exits : ∀ (ou : Out) (c : Code), ((ou = .ret ∧ c = .ret) ∨ ∃ id, ou = .exit id ∧ c = .exit id) → (ExitR σ2.G fun G => K ou bd2 ⟨frOf I.fr, σ2.H, G⟩) →
        ∃ v w', (Instr.endRound l (some c)).run P W2 = .ok v w' ∧ ∃ st G', Ending.returned v = Ending.returned (Value.bool !st) ∧ Grow G1 G' ∧ Sub G' w' ∧ (∀ b, Hd b → w'.heap[b]? = W1.heap[b]? ∧ G' b = none) ∧ W1.heap.size ≤ w'.heap.size ∧
          (cond st (J2x A e p0 ds l (fun c => mkRec fn a.tmps ps x y D .done (some c)) I.fr K G bd b2 E) (J2 A e p0 ds l (mkRec fn a.tmps ps x y D .ready none) I G E)) (k + 1) Hd G' w' := fun ou c hc hx => by
      have core7 := core6.setRec he (mkRec fn a.tmps ps x y D .done (some c))
      exact ⟨_, _, fin (some c), true, σ2.G, rfl, hgG, core7.sim.sub, hkeep _, by rw [World.putObj_size]; exact hsz, ou, c, bd2, σ2.H, E6, hc, fun G2 hg => (hx.k G2 hg).out, Nat.le_trans hle' hle2', hle2, fun h ob e => ⟨n1 h (n4 h ob e).1, OB.ment_mono n1 (n4 h ob e).2⟩, hgr.trans hgG, hagE, core7⟩
    cases o with
    | ret => exact exits .ret .ret (.inl ⟨rfl, rfl⟩) hk2
    | exit id => exact exits (.exit id) (.exit id) (.inr ⟨id, rfl, rfl⟩) hk2
    | norm =>
      obtain ⟨x', ⟨π, f1, f0, f4⟩, f2, f3⟩ := hk2
      have core7 := core6.setRec he (mkRec fn a.tmps ps x y D .ready none)
      have hsr := core7.sim.ren f1 f0
      have core8 := core7.retell he hsr.1 (fun b ⟨h, ob, e1, e2⟩ => let ⟨h', ob', e3, e4⟩ := hsr.2 h ob b e1 e2; ⟨h', ob', e3, e4⟩)
      have hag8 : Agree A E (En E6 π) := fun k hk => by
        have : En E6 π k = E6 k := by unfold En; rw [avoid_spec f4 (hAp k hk)]
        rw [this]; exact hagE k hk
      exact ⟨_, _, fin none, false, σ2.G, rfl, hgG, core8.sim.sub, hkeep _, by rw [World.putObj_size]; exact hsz, x', En E6 π, by rw [f3, hk], f2, hgr.trans hgG, hag8, core8⟩

/-- **What is asked of code is enough.** -/
theorem vc_sound (T : Tab P) : ∀ (c : Code) {e : Env}, e.Ok P → ∀ {rd : Option Nat} {nn : Nat} {M0 : Nat → Prop} {E0 : Nat → Value} {ds : List Deferred} {ic : IC} {b b2 bd : Nat} {σ : St} {a : Act} {W : World} {K : Out → Nat → St → Prop} {Q : Exit → Act → World → Prop} {pb : List Nat}, compC P n c b = some (ic, b2) → bd ≤ b → (∀ k, M0 k → k ∈ pb) → (rd = none ∨ noRange ic = true) →
    SatE e ds n bd M0 E0 σ a W → vc P T.get ⟨e.l, e.Y, pb⟩ ic bd σ K → (∀ o bd' σ' a' W' ds', (noRange ic = true → ds' = ds) → K o bd' σ' → bd ≤ bd' → bd' ≤ b2 → Grow σ.G σ'.G → SatE e ds' n bd' M0 E0 σ' a' W' → Q (exitOf o) a' W') → c.wpIn (FW rd) nn P Q a W := by
  intro c
  induction c with
  | skip =>
    intro e he rd nn M0 E0 ds ic b b2 bd σ a W K Q pb hc hb hpb hrd hs hd hq
    cases hc
    exact wpIn_skip (hq .norm bd σ a W ds (fun _ => rfl) hd (Nat.le_refl _) hb (Grow.refl _) hs)
  | exit id =>
    intro e he rd nn M0 E0 ds ic b b2 bd σ a W K Q pb hc hb hpb hrd hs hd hq
    cases hc
    exact wpIn_exit (hq (.exit id) bd σ a W ds (fun _ => rfl) hd (Nat.le_refl _) hb (Grow.refl _) hs)
  | ret =>
    intro e he rd nn M0 E0 ds ic b b2 bd σ a W K Q pb hc hb hpb hrd hs hd hq
    cases hc
    exact wpIn_ret (hq .ret bd σ a W ds (fun _ => rfl) hd (Nat.le_refl _) hb (Grow.refl _) hs)
  | scope x ih =>
    intro e he rd nn M0 E0 ds ic b b2 bd σ a W K Q pb hc hb hpb hrd hs hd hq
    refine wpIn_scope (ih he hc hb hpb hrd hs hd fun o bd' σ' a' W' ds' k0 k1 k2 k3 k4 k5 => ?_)
    have := hq o bd' σ' a' W' ds' k0 k1 k2 k3 k4 k5
    cases o <;> exact this
  | label l =>
    intro e he rd nn M0 E0 ds ic b b2 bd σ a W K Q pb hc hb hpb hrd hs hd hq
    cases hc
    exact wpIn_label (hq .norm bd σ a W ds (fun _ => rfl) hd (Nat.le_refl _) hb (Grow.refl _) hs)
  | region id ops draw =>
    intro e he rd nn M0 E0 ds ic b b2 bd σ a W K Q pb hc hb hpb hrd hs hd hq
    cases draw with
    | true =>
      simp only [compC] at hc
      split at hc
      case h_2 => cases hc
      rename_i ic' hic
      cases hc
      obtain ⟨all, ps, ns, rfl, hf, D, hlen, hall⟩ := compDraw_spec hic
      simp only [vc] at hd
      cases hbb : Nat.ble bd b with
      | false => rw [hbb] at hd; exact hd.elim
      | true =>
        rw [hbb] at hd
        obtain ⟨H0, G1, hd, hg1, hs1⟩ := hs.pub hd
        obtain ⟨H1, hd, hs2⟩ := hs1.nam hd
        obtain ⟨r, G0, M, E, h0, h1, h2, h3, h4, h5, h6⟩ := hs2.ex
        have em : (all.map fun p => strip p.2) = (all.map (·.2)).map strip := by rw [List.map_map]; rfl
        rw [em] at hd
        have hd' := vcOps_strip hd
        refine draw_sound T hf D hlen (top := b + ops.size) (Nat.le_add_right _ _) (fun p hp => ⟨by have := (hall p hp).1; omega, by have := (hall p hp); omega⟩) (M := M) (E := E) (fun k hk => Nat.lt_of_lt_of_le (h1 k hk) hb) h6 hd' (M0 := M0) (E0 := E0) h2 h3 ?_
        intro σ' a' W' M' E' hk hg hM' hMM hAg hp0 hs'
        rw [hlen] at hk
        exact hq .norm _ σ' a' W' ds (fun _ => rfl) hk (Nat.le_trans hb (Nat.le_add_right _ _)) (Nat.le_refl _) (hg1.trans hg) (SatE.of hM' hMM hAg (hp0 ▸ h4) (h5.trans hg) hs' h0)
    | false =>
      simp only [compC] at hc
      split at hc
      case h_2 => cases hc
      rename_i l hl
      cases hc
      simp only [vc] at hd
      cases hbb : Nat.ble bd b with
      | false => rw [hbb] at hd; exact hd.elim
      | true =>
        rw [hbb] at hd
        refine wpIn_region_list ?_
        refine ops_sound T he hl (hs.up hb) hd ?_
        intro σ' a' W' hk hg hs'
        have hlen := compList_len hl
        rw [← hlen] at hs'
        exact hq .norm _ σ' a' W' ds (fun _ => rfl) hk (Nat.le_trans hb (Nat.le_add_right _ _)) (Nat.le_refl _) hg hs'
  | seq x y ihx ihy =>
    intro e he rd nn M0 E0 ds ic b b2 bd σ a W K Q pb hc hb hpb hrd hs hd hq
    simp only [compC] at hc
    split at hc
    case h_2 => cases hc
    rename_i x' b' hx
    split at hc
    case h_2 => cases hc
    rename_i y' b3 hy
    cases hc
    simp only [vc] at hd
    have hle := compC_le y hy
    have hr1 : rd = none ∨ noRange x' = true := hrd.imp id (fun h => by simp only [noRange, Bool.and_eq_true] at h; exact h.1)
    have hr2 : rd = none ∨ noRange y' = true := hrd.imp id (fun h => by simp only [noRange, Bool.and_eq_true] at h; exact h.2)
    refine wpIn_seq (ihx he hx hb hpb hr1 hs hd ?_)
    intro o bd' σ' a' W' ds' hds hk hbl hbd hg hs'
    cases o with
    | norm => exact ihy he hy hbd hpb hr2 hs' hk (fun o2 bd2 σ2 a2 W2 ds2 k0 k1 kl k2 k3 k4 => hq o2 bd2 σ2 a2 W2 ds2 (fun h => by simp only [noRange, Bool.and_eq_true] at h; rw [k0 h.2, hds h.1]) k1 (Nat.le_trans hbl kl) k2 (hg.trans k3) k4)
    | exit id => exact hq (.exit id) bd' σ' a' W' ds' (fun h => by simp only [noRange, Bool.and_eq_true] at h; exact hds h.1) hk hbl (Nat.le_trans hbd hle) hg hs'
    | ret => exact hq .ret bd' σ' a' W' ds' (fun h => by simp only [noRange, Bool.and_eq_true] at h; exact hds h.1) hk hbl (Nat.le_trans hbd hle) hg hs'
  | cond q x y ihx ihy =>
    intro e he rd nn M0 E0 ds ic b b2 bd σ a W K Q pb hc hb hpb hrd hs hd hq
    simp only [compC] at hc
    split at hc
    case h_2 => cases hc
    rename_i c' x' b' hcq hx
    split at hc
    case h_2 => cases hc
    rename_i y' b3 hy
    cases hc
    have hle := compC_le y hy
    have hle' := compC_le x hx
    simp only [vc] at hd
    have hr1 : rd = none ∨ noRange x' = true := hrd.imp id (fun h => by simp only [noRange, Bool.and_eq_true] at h; exact h.1)
    have hr2 : rd = none ∨ noRange y' = true := hrd.imp id (fun h => by simp only [noRange, Bool.and_eq_true] at h; exact h.2)
    have go : ∀ t : Bool, a.eval q = .bool t → (match t with | true => vc P T.get ⟨e.l, e.Y, pb⟩ x' bd σ K | false => vc P T.get ⟨e.l, e.Y, pb⟩ y' bd σ K) → (Code.cond q x y).wpIn (FW rd) nn P Q a W := fun t ev h => by
      refine wpIn_cond ev ?_
      cases t with
      | true => exact ihx he hx hb hpb hr1 hs h (fun o bd' σ' a' W' ds' k0 k1 kl k2 => hq o bd' σ' a' W' ds' (fun h => by simp only [noRange, Bool.and_eq_true] at h; exact k0 h.1) k1 kl (Nat.le_trans k2 hle))
      | false => exact ihy he hy (Nat.le_trans hb hle') hpb hr2 hs h (fun o bd' σ' a' W' ds' k0 k1 kl k2 => hq o bd' σ' a' W' ds' (fun h => by simp only [noRange, Bool.and_eq_true] at h; exact k0 h.2) k1 kl k2)
    obtain ⟨r, G0, M, E, _, _, _, _, _, _, hs'⟩ := hs.ex
    have rc := opd_rel hs'.fr hcq
    unfold condK at hd
    split at hd
    · rename_i e'; rw [e'] at rc; exact go true rc hd
    · rename_i e'; rw [e'] at rc; exact go false rc hd
    · rename_i t e'
      rw [e'] at rc
      cases t
      · exact go false rc (hd.f rfl).out
      · exact go true rc (hd.t rfl).out
    · exact hd.elim
  | block id x ih =>
    intro e he rd nn M0 E0 ds ic b b2 bd σ a W K Q pb hc hb hpb hrd hs hd hq
    simp only [compC] at hc
    split at hc
    case h_2 => cases hc
    rename_i x' b' hx
    cases hc
    simp only [vc] at hd
    refine wpIn_block (ih he hx hb hpb (hrd.imp (fun h => h) fun h => h) hs hd ?_)
    intro o bd' σ' a' W' ds' hds hk hbl hbd hg hs'
    cases o with
    | norm => exact hq .norm bd' σ' a' W' ds' hds hk hbl hbd hg hs'
    | ret => exact hq .ret bd' σ' a' W' ds' hds hk hbl hbd hg hs'
    | exit i =>
      simp only [exitOf, Exit.inBlock]
      cases hi : Nat.beq i id with
      | true =>
        simp only [hi, cond_true] at hk
        rw [if_pos (Nat.eq_of_beq_eq_true hi)]
        exact hq .norm bd' σ' a' W' ds' hds hk hbl hbd hg hs'
      | false =>
        simp only [hi, cond_false] at hk
        rw [if_neg (fun e => by subst e; rw [Nat.beq_refl] at hi; cases hi)]
        exact hq (.exit i) bd' σ' a' W' ds' hds hk hbl hbd hg hs'
  | loop x ih =>
    intro e he rd nn M0 E0 ds ic b b2 bd σ a W K Q pb hc hb hpb hrd hs hd hq
    simp only [compC] at hc
    split at hc
    case h_2 => cases hc
    rename_i x' b' hx
    cases hc
    simp only [vc] at hd
    obtain ⟨I, ⟨x0, f0, k0⟩, hbd, hround⟩ := hd
    have hM0 := hs.low
    have key : ∀ m (g : I.α) (a' : Act) (W' : World) G ds', (noRange x' = true → ds' = ds) → I.m g < m → Grow σ.G G → I.ok g G → SatE e ds' n bd M0 E0 ⟨frOf (I.fr g), HOf (I.H g), G⟩ a' W' → Code.roundsIn (FW rd) nn P x Q m a' W' := by
      intro m
      induction m with
      | zero => intro g a' W' G ds' _ h; omega
      | succ m ihm =>
        intro g a' W' G ds' hds hm hG hok hsat
        have hr := (hround g G hG hok).out
        refine ih he hx hb hpb (hrd.imp (fun h => h) fun h => h) hsat hr ?_
        intro o bd' σ' a2 W2 ds2 hds2 hk hbl' hbd' hg' hs'
        have hds3 : noRange x' = true → ds2 = ds := fun h => (hds2 h).trans (hds h)
        cases o with
        | exit id => exact hq (.exit id) bd' σ' a2 W2 ds2 hds3 hk hbl' hbd' (hG.trans hg') hs'
        | ret => exact hq .ret bd' σ' a2 W2 ds2 hds3 hk hbl' hbd' (hG.trans hg') hs'
        | norm =>
          obtain ⟨g', f1, f3, f4⟩ := hk
          exact ihm g' a2 W2 σ'.G ds2 hds3 (by omega) (hG.trans hg') f3 (hs'.head hM0 hpb f1 (hbd g').1 (hbd g').2)
    exact wpIn_loop_rounds (I.m x0 + 1) (key _ x0 a W σ.G ds (fun _ => rfl) (Nat.lt_succ_self _) (Grow.refl _) k0 (hs.head hM0 hpb f0 (hbd x0).1 (hbd x0).2))
  | rangeFunc g ps x y ihx ihy =>
    intro e he rd nn M0 E0 ds ic b b2 bd σ a W K Q pb hc hb hpb hrd hs hd hq
    simp only [compC] at hc
    split at hc
    case h_2 => cases hc
    rename_i g' ic1 b1 hg' hx
    split at hc
    case h_2 => cases hc
    rename_i jc1 b3 hy
    cases hcc : (noRange ic1 && noRange jc1 && ps.toList.all (fun p => Nat.blt p n && Nat.blt p 1000000)) with
    | false => rw [hcc] at hc; cases hc
    | true =>
      rw [hcc] at hc; cases hc
      simp only [Bool.and_eq_true, List.all_eq_true] at hcc
      obtain ⟨⟨nr1, nr2⟩, hps⟩ := hcc
      have hrd : rd = none := hrd.resolve_right (by simp [noRange])
      subst hrd
      obtain ⟨fr, H, G⟩ := σ
      simp only [vc] at hd
      split at hd
      case h_2 => exact hd.elim
      rename_i v hv
      obtain ⟨pre, post, Ys, I, ⟨gf, first, cap, rfl, hbody, hsound⟩, hpre, hlen, ⟨x0, kx0, hH0, ok0⟩, ⟨hfb, hbd⟩, hmono, hround, hdone⟩ := hd
      have hpos : fr POS = frOf I.fr POS := hH0.pos
      have rg : a.eval g = .func (.func gf) first cap := by
        obtain ⟨r, G0, M, E, _, _, _, _, _, _, h6⟩ := hs.ex
        have := opd_rel h6.fr hg'
        rw [hv] at this; exact this
      have hs0 := hs.head hs.low hpb hH0 hfb (hbd x0)
      clear hs hv
      generalize hfrg : frOf I.fr = fr' at hs0
      generalize hHg : HOf (I.H x0) = H' at hs0
      obtain ⟨M, E, rfl, h1, h2, h3, h4, h5⟩ := hs0.now he
      subst hfrg
      subst hHg
      have hle1 := compC_le x hx
      have hle2 := compC_le y hy
      refine wpIn_rangeFunc ?_
      intro fn _
      -- the record and the block of deferred calls
      obtain ⟨W1, hW1⟩ : ∃ W1, (W.alloc (.deferred (some []))).alloc (mkRec fn a.tmps ps x y W.heap.size .ready none) = W1 := ⟨_, rfl⟩
      have hlow : ∀ k, k < W.heap.size → W1.heap[k]? = W.heap[k]? := fun k hk => by
        rw [← hW1]; exact (Below.heap_alloc _ _ _ (by simp; omega)).trans (Below.heap_alloc _ _ _ hk)
      have hsz1 : W1.heap.size = W.heap.size + 2 := by rw [← hW1]; simp
      have hL1 : W1.heap[W.heap.size + 1]? = some (mkRec fn a.tmps ps x y W.heap.size .ready none) := by
        rw [← hW1]; have := World.alloc_heap_new (W.alloc (.deferred (some []))) (mkRec fn a.tmps ps x y W.heap.size .ready none); rwa [World.size_alloc] at this
      have hK1 : W1.heap[W.heap.size]? = some (.deferred (some [])) := by
        rw [← hW1]; exact (Below.heap_alloc _ _ _ (by simp)).trans (World.alloc_heap_new W _)
      have hos : W1.os = W.os ∧ W1.tape = W.tape ∧ W1.output = W.output := by rw [← hW1]; exact ⟨rfl, rfl, rfl⟩
      have hG : ∀ k, W.heap.size ≤ k → G k = none := fun k hk => by
        cases h : G k with
        | none => rfl
        | some o => have := (Array.getElem?_eq_some_iff.1 (h5.sim.sub k o h)).1; omega
      have hhand : ∀ k, Hand E (HOf (I.H x0)) k → k < W.heap.size := fun k hk => h4.ln k hk
      have hsub1 : Sub G W1 := fun k o h => by
        have h0 := h5.sim.sub k o h
        rw [hlow k (Array.getElem?_eq_some_iff.1 h0).1]; exact h0
      have hmark : ∀ D, MarkB a.defers D → D < W.heap.size := fun D hD => (Array.getElem?_eq_some_iff.1 (h4.marks.at_ D hD).2.2).1
      -- what the machinery holds
      have core0 : Core e (frOf I.fr POS) (⟨.collected W.heap.size, #[]⟩ :: a.defers) (W.heap.size + 1) (mkRec fn a.tmps ps x y W.heap.size .ready none) E (HOf (I.H x0)) (fun _ => False) G W1 := by
        have hk : ∀ k, HdOf ⟨W, Hand E (HOf (I.H x0)), a.defers⟩ G k → W1.heap[k]? = W.heap[k]? ∧ G k = none := fun k hk => by
          rcases hk with ⟨q1, q2⟩ | q
          · exact ⟨hlow k (hhand k q1), q2⟩
          · exact ⟨hlow k (hmark k q), (h4.marks.at_ k q).2.1⟩
        obtain ⟨a1, a2, a3⟩ := Rooted.after h5.sim h4.marks (Grow.refl G) hsub1 hk
        have full : Core e (frOf I.fr POS) (⟨.collected W.heap.size, #[]⟩ :: a.defers) (W.heap.size + 1) (mkRec fn a.tmps ps x y W.heap.size .ready none) E (HOf (I.H x0)) (fun _ => False) G W1 := by
          have mk : ∀ D, MarkB (⟨.collected W.heap.size, #[]⟩ :: a.defers) D → D = W.heap.size ∨ MarkB a.defers D := fun D ⟨d, hd, e⟩ => by
            rcases List.mem_cons.1 hd with rfl | hd
            · injection e with e1 _; injection e1 with e1; exact .inl e1.symm
            · exact .inr ⟨d, hd, e⟩
          refine ⟨a1.self _, he.step h4.at_ ⟨⟨hos.1, hos.2.1, hos.2.2, by show W.heap.size ≤ _; omega, fun k hk _ => hlow k hk⟩, Grow.refl _, hsub1, fun b o h => .inl h, ?_⟩, ⟨?_, ?_, ?_⟩, ⟨hL1, hG _ (by omega), fun h => by have := hhand _ h; omega, fun h => ?_⟩, fun b hb => hb.elim⟩
          · rintro k ((⟨q1, q2⟩ | q) | q | q)
            · exact ⟨.inl (.inl ⟨q1, q2⟩), q2, (a3 k q1).1⟩
            · rcases mk k q with rfl | q
              · exact ⟨.inr (Nat.le_refl _), hG _ (Nat.le_refl _), by omega⟩
              · exact ⟨.inl (.inr q), (h4.marks.at_ k q).2.1, by have := hmark k q; omega⟩
            · exact q.elim
            · subst q; exact ⟨.inr (by show W.heap.size ≤ W.heap.size + 1; omega), hG _ (by omega), by omega⟩
          · intro d hd
            rcases List.mem_cons.1 hd with rfl | hd
            · exact ⟨_, rfl⟩
            · exact h4.marks.each d hd
          · intro D hD
            rcases mk D hD with rfl | q
            · exact ⟨fun h => by have := hhand _ h; omega, hG _ (Nat.le_refl _), hK1⟩
            · exact a2.at_ D q
          · refine List.pairwise_cons.2 ⟨fun d hd e => ?_, h4.marks.nodup⟩
            have := hmark W.heap.size ⟨d, hd, e.symm⟩
            omega
          · rcases mk _ h with h | h
            · omega
            · have := hmark _ h; omega
        exact full
      have hrounds := range_rounds (A := fun k => k ∈ mentFr I.fr ∨ M0 k) (pb := pb) (n := n) (tab := T.get) (K := K) (I := I) (ps := ps) (x := x) (y := y) (fn := fn) (a := a) (D := W.heap.size) (ic := ic1) (jc := jc1) (l := W.heap.size + 1) (ds := ⟨.collected W.heap.size, #[]⟩ :: a.defers) he (b := b) (b1 := b1) (b2 := b2) (bd := bd) (Ys := Ys) (p0 := frOf I.fr POS)
        (fun {W1 Hd E1 σ a1 K Q} hs hv hq => ihx (bodyEnv_ok he) hx hb (fun _ h => h.elim (fun h => by simp [h]) (fun h => by simp [hpb _ h])) (.inr nr1) hs hv (fun o bd' σ' a' W' ds' k0 => by rw [k0 nr1]; exact hq o bd' σ' a' W'))
        (fun {W1 Hd E1 bd1 σ a1 K Q} hb1 hs hv hq => ihy (bodyEnv_ok he) hy hb1 (fun _ h => h.elim (fun h => by simp [h]) (fun h => by simp [hpb _ h])) (.inr nr2) hs hv (fun o bd' σ' a' W' ds' k0 => by rw [k0 nr2]; exact hq o bd' σ' a' W'))
        hfb (fun k hk => hk.elim (fun h => bd_mentFr hfb k h) (fun h => h1 k (h2 k h))) (fun k hk => .inl hk) (fun k hk => hk.elim (fun h => by simp [h]) (fun h => by simp [hpb _ h])) h5.fr h5.size (fun p hp => by have := (hps p hp).1; simpa using this) hlen hbd hround
      have he2 : Env.Ok P ⟨W.heap.size + 1, Ys, _, _⟩ := ⟨J2_stable he hmono, J2x_stable he, hrounds⟩
      have hcall := hsound _ he2 [.func (.yield (W.heap.size + 1)) #[] #[]] G W1 Ys 0 hsub1 (hpre _) (by simp) ⟨x0, E, kx0, ok0, Grow.refl _, Agree.refl _ _, core0⟩
      refine ⟨W.heap.size + 1, [⟨.collected W.heap.size, #[]⟩], W1, { target := .fn (.func gf) cap, args := first ++ #[Value.func (.yield (W.heap.size + 1)) #[] #[]] }, W1, gf, (first.toList ++ [Value.func (.yield (W.heap.size + 1)) #[] #[]] ++ cap.toList).toArray, W1, ?_, ?_, ?_, ?_, ?_, ?_⟩
      · rw [← hW1]; exact run_enterLoop_outer _ _ _ _ _
      · simp only [resolve, rg]
        simp [go_sem]
      · intro f' hf'; trivial
      · have : (first ++ #[Value.func (.yield (W.heap.size + 1)) #[] #[]] ++ cap : Array Value) = (first.toList ++ [Value.func (.yield (W.heap.size + 1)) #[] #[]] ++ cap.toList).toArray := by apply Array.ext'; simp
        rw [← this]
        simp only [invoke]
        exact run_callFunc hbody _ _
      · intro h; simp [FW, Fence.wide] at h
      · refine (callsIn_FW hcall).mono ?_
        rintro en W2 ⟨v, st, j, G2, rfl, r1, r2, r3, r4, r5⟩
        -- behind the loop
        have fin : ∀ {o : Obj} {r : Loop} {E2 : Nat → Value} {H2 : Nat → Option OB} {bd2 : Nat}, o = .loop r → r.state ≠ .busy → Agree (fun k => k ∈ mentFr I.fr ∨ M0 k) E E2 → bd ≤ bd2 → (∀ h ob, H2 h = some ob → h < bd2 ∧ ob.ment (· < bd2)) → Core e (frOf I.fr POS) (⟨.collected W.heap.size, #[]⟩ :: a.defers) (W.heap.size + 1) o E2 H2 (fun _ => False) G2 W2 →
            ∃ W3, (Instr.endLoop (W.heap.size + 1)).run P W2 = .ok r.pending W3 ∧ SatE e (⟨.collected W.heap.size, #[]⟩ :: a.defers) n bd2 M0 E0 ⟨frOf I.fr, H2, G2⟩ { a with defers := ⟨.collected W.heap.size, #[]⟩ :: a.defers } W3 := by
          rintro o r E2 H2 bd2 rfl hbusy hag hbd2 hm2 core
          have hrun := run_endLoop (P := P) core.rec_.1 hbusy
          refine ⟨_, hrun, ?_⟩
          have c3 := core.setRec he (.loop { r with state := .exhausted })
          refine SatE.of (M := (· < bd2)) (E := E2) (r := ⟨_, Hand E2 H2, ⟨.collected W.heap.size, #[]⟩ :: a.defers⟩) (G0 := G2) (fun _ h => h) (fun k hk => Nat.lt_of_lt_of_le (h1 k (h2 k hk)) hbd2) (fun k hk => (hag k (.inr hk)).trans (h3 k hk)) ⟨he.step c3.at_ (EnvStep.shrink c3.sim.sub fun b hb => ⟨.inl hb, c3.priv b (.inl hb)⟩), fun b hb => c3.hand hb, c3.sim.sub, c3.marks⟩ (Grow.refl _)
            ⟨c3.sim, fun i => SV.ment_mono (fun k hk => Nat.lt_of_lt_of_le (h1 k hk) hbd2) (h5.mfr i), hm2, fun i => SV.rel_agree (h5.fr i) (SV.ment_mono (fun k hk => .inl hk) (mentFr_ment (fun k hk => hk) i)) hag, h5.size, rfl⟩
        cases st with
        | false =>
          obtain ⟨x', E2, q1, q2, q3, q4, q5⟩ := r5
          obtain ⟨W3, w1, w2⟩ := fin rfl (by simp) q4 (Nat.le_refl _) (HBd_all (hbd x')) q5
          refine ⟨none, W3, w1, ?_⟩
          have hk := (hdone x' G2 q3 q2 (by rw [q1, r4 rfl]; simp)).out
          exact hq .norm bd _ _ W3 _ (fun h => by simp [noRange] at h) hk (Nat.le_refl _) (Nat.le_trans hb (Nat.le_trans hle1 hle2)) q3 w2
        | true =>
          obtain ⟨ou, c, bd2, H2, E2, q1, q2, q3, q4, q5, q6, q7, q8⟩ := r5
          obtain ⟨W3, w1, w2⟩ := fin rfl (by simp) q7 q3 q5 q8
          refine ⟨some c, W3, w1, ?_⟩
          have hk := q2 G2 (Grow.refl _)
          have hgo := hq ou bd2 _ _ W3 _ (fun h => by simp [noRange] at h) hk q3 q4 q6 w2
          rcases q1 with ⟨rfl, rfl⟩ | ⟨id, rfl, rfl⟩
          · exact wpIn_ret hgo
          · exact wpIn_exit hgo
  | _ => intros; simp [compC] at *
end
end Go.Pal
