/- A loop over an iterator: what the machinery holds; the body's own view. -/
import Derived.Test.YtcmhpndhloplpaaPalW
namespace Go.Pal
open Go.RowKit

structure Core (e : Env) (p0 : SV) (ds : List Deferred) (l : Nat) (o : Obj) (E1 : Nat → Value) (H : Nat → Option OB) (Hd : Nat → Prop) (G1 : Hp) (W1 : World) : Prop where
  sim : Sim ⟨W1, Hand E1 H, ds⟩ G1 E1 H G1 W1
  at_ : e.at_ p0 (fun b => HdOf ⟨W1, Hand E1 H, ds⟩ G1 b ∨ Hd b ∨ b = l) G1 W1
  marks : MarksAt ds (Hand E1 H) G1 W1
  rec_ : W1.heap[l]? = some o ∧ G1 l = none ∧ ¬ Hand E1 H l ∧ ¬ MarkB ds l
  hd : ∀ b, Hd b → ¬ Hand E1 H b ∧ b ≠ l ∧ ¬ MarkB ds b ∧ G1 b = none ∧ b < W1.heap.size

theorem Sim.self {r : Root} {G0 G : Hp} {E : Nat → Value} {H : Nat → Option OB} {W : World} (hs : Sim r G0 E H G W) (ds : List Deferred) : Sim ⟨W, Hand E H, ds⟩ G E H G W :=
  ⟨Beneath.refl _, hs.sub, fun b o h => .inl h, fun h ob e1 => OB.ok_root (hs.own h ob e1) (fun b hb => .inr ⟨h, ob, e1, hb⟩), hs.pub, hs.priv, hs.inj⟩

section
variable {P : Program} {e : Env} {p0 : SV} {ds : List Deferred} {l : Nat} {o : Obj} {E1 : Nat → Value} {H : Nat → Option OB} {Hd Hd' : Nat → Prop} {G1 G2 : Hp} {W1 W2 : World}

theorem Core.hand (c : Core e p0 ds l o E1 H Hd G1 W1) {b : Nat} (h : Hand E1 H b) : b < W1.heap.size := by
  obtain ⟨i, ob, e1, e2⟩ := h
  exact (OB.blk (c.sim.own i ob e1) e2).2
theorem Core.mark (c : Core e p0 ds l o E1 H Hd G1 W1) {b : Nat} (h : MarkB ds b) : b < W1.heap.size := (Array.getElem?_eq_some_iff.1 (c.marks.at_ b h).2.2).1
theorem Core.low (c : Core e p0 ds l o E1 H Hd G1 W1) : l < W1.heap.size := (Array.getElem?_eq_some_iff.1 c.rec_.1).1

theorem grow_none {b : Nat} (hg : Grow G1 G2) (h : G2 b = none) : G1 b = none := by
  cases h' : G1 b with
  | none => rfl
  | some o => rw [hg b o h'] at h; cases h

theorem Core.step (he : e.Ok P) (c : Core e p0 ds l o E1 H Hd G1 W1) (s : EnvStep Hd G1 W1 Hd' G2 W2) : Core e p0 ds l o E1 H Hd' G2 W2 := by
  have keep : ∀ b, b < W1.heap.size → ¬ Hd b → G1 b = none → W2.heap[b]? = W1.heap[b]? ∧ G2 b = none := fun b h1 h2 h3 => by
    refine ⟨s.beneath.block b h1 h2, ?_⟩
    cases h : G2 b with
    | none => rfl
    | some o =>
      rcases s.newG b o h with h4 | h4 | h4
      · rw [h3] at h4; cases h4
      · exact (h2 h4).elim
      · omega
  have hH : ∀ b, HdOf ⟨W1, Hand E1 H, ds⟩ G1 b → W2.heap[b]? = W1.heap[b]? ∧ G2 b = none := fun b hb => by
    rcases hb with ⟨h1, h2⟩ | h1
    · exact keep b (c.hand h1) (fun h => (c.hd b h).1 h1) h2
    · exact keep b (c.mark h1) (fun h => (c.hd b h).2.2.1 h1) (c.marks.at_ b h1).2.1
  obtain ⟨a1, a2, a3⟩ := Rooted.after c.sim c.marks s.grow s.sub hH
  obtain ⟨l1, l2⟩ := keep l c.low (fun h => (c.hd l h).2.1 rfl) c.rec_.2.1
  have l3 : W2.heap[l]? = some o := l1.trans c.rec_.1
  refine ⟨a1, he.step c.at_ ⟨⟨s.beneath.os, s.beneath.tape, s.beneath.output, s.beneath.size, fun k hk hn => s.beneath.block k hk (fun h => hn (.inr (.inl h)))⟩, s.grow, s.sub, ?_, ?_⟩, a2, ⟨l3, l2, c.rec_.2.2⟩, ?_⟩
  · intro b o h
    rcases s.newG b o h with h | h | h
    · exact .inl h
    · exact .inr (.inl (.inr (.inl h)))
    · exact .inr (.inr h)
  · rintro b ((⟨h1, h2⟩ | h) | h)
    · exact ⟨.inl (.inl (.inl ⟨h1, grow_none s.grow h2⟩)), h2, (a3 b h1).1⟩
    · exact ⟨.inl (.inl (.inr h)), (a2.at_ b h).2.1, (Array.getElem?_eq_some_iff.1 (a2.at_ b h).2.2).1⟩
    · rcases h with h | h
      · exact ⟨(s.hd b h).1.imp (fun h => .inr (.inl h)) id, (s.hd b h).2⟩
      · subst h
        exact ⟨.inl (.inr (.inr rfl)), l2, (Array.getElem?_eq_some_iff.1 l3).1⟩
  · intro b hb
    obtain ⟨h1, h2, h3⟩ := s.hd b hb
    rcases h1 with h1 | h1
    · obtain ⟨k1, k2, k3, _⟩ := c.hd b h1
      exact ⟨k1, k2, k3, h2, h3⟩
    · exact ⟨fun h => by have := c.hand h; omega, fun h => by have := c.low; omega, fun h => by have := c.mark h; omega, h2, h3⟩

theorem Core.setRec (he : e.Ok P) (c : Core e p0 ds l o E1 H Hd G1 W1) (o' : Obj) : Core e p0 ds l o' E1 H Hd G1 (W1.putObj l o') := by
  have other : ∀ b, b ≠ l → (W1.putObj l o').heap[b]? = W1.heap[b]? := fun b hb => World.putObj_heap_other hb
  have hsub : Sub G1 (W1.putObj l o') := fun b o h => by
    rw [other b (fun e => by subst e; rw [c.rec_.2.1] at h; cases h)]; exact c.sim.sub b o h
  have hH : ∀ b, HdOf ⟨W1, Hand E1 H, ds⟩ G1 b → (W1.putObj l o').heap[b]? = W1.heap[b]? ∧ G1 b = none := fun b hb => by
    rcases hb with ⟨h1, h2⟩ | h1
    · exact ⟨other b (fun e => c.rec_.2.2.1 (e ▸ h1)), h2⟩
    · exact ⟨other b (fun e => c.rec_.2.2.2 (e ▸ h1)), (c.marks.at_ b h1).2.1⟩
  obtain ⟨a1, a2, a3⟩ := Rooted.after c.sim c.marks (Grow.refl _) hsub hH
  refine ⟨a1, he.step c.at_ ⟨⟨rfl, rfl, rfl, by simp, fun k hk hn => other k (fun e => hn (.inr (.inr e)))⟩, Grow.refl _, hsub, fun b o h => .inl h, ?_⟩, a2, ⟨World.putObj_heap_same c.low, c.rec_.2⟩, fun b hb => by rw [World.putObj_size]; exact c.hd b hb⟩
  rintro b ((⟨h1, h2⟩ | h) | h)
  · exact ⟨.inl (.inl (.inl ⟨h1, h2⟩)), h2, (a3 b h1).1⟩
  · exact ⟨.inl (.inl (.inr h)), (a2.at_ b h).2.1, (Array.getElem?_eq_some_iff.1 (a2.at_ b h).2.2).1⟩
  · refine ⟨.inl (.inr h), ?_⟩
    rcases h with h | h
    · rw [World.putObj_size]; exact (c.hd b h).2.2.2
    · subst h; rw [World.putObj_size]; exact ⟨c.rec_.2.1, c.low⟩

theorem Core.priv (c : Core e p0 ds l o E1 H Hd G1 W1) : ∀ b, (HdOf ⟨W1, Hand E1 H, ds⟩ G1 b ∨ Hd b ∨ b = l) → G1 b = none ∧ b < W1.heap.size := by
  rintro b ((⟨h1, h2⟩ | h) | h)
  · exact ⟨h2, c.hand h1⟩
  · exact ⟨(c.marks.at_ b h).2.1, c.mark h⟩
  · rcases h with h | h
    · exact (c.hd b h).2.2.2
    · subst h; exact ⟨c.rec_.2.1, c.low⟩

theorem Core.retell (he : e.Ok P) (c : Core e p0 ds l o E1 H Hd G1 W1) {r : Root} {G0 : Hp} {E2 : Nat → Value} {H' : Nat → Option OB} (hs : Sim r G0 E2 H' G1 W1) (hh : ∀ b, Hand E2 H' b → Hand E1 H b) : Core e p0 ds l o E2 H' Hd G1 W1 := by
  refine ⟨hs.self ds, he.step c.at_ (EnvStep.shrink c.sim.sub fun b hb => ?_), ⟨c.marks.each, fun D hD => ⟨fun h' => (c.marks.at_ D hD).1 (hh D h'), (c.marks.at_ D hD).2⟩, c.marks.nodup⟩, ⟨c.rec_.1, c.rec_.2.1, fun h' => c.rec_.2.2.1 (hh l h'), c.rec_.2.2.2⟩, fun b hb => ⟨fun h' => (c.hd b hb).1 (hh b h'), (c.hd b hb).2⟩⟩
  have : HdOf ⟨W1, Hand E1 H, ds⟩ G1 b ∨ Hd b ∨ b = l := hb.imp (fun h => h.imp (fun h => ⟨hh b h.1, h.2⟩) id) id
  exact ⟨this, c.priv b this⟩

def bodyEnv (e : Env) (p0 : SV) (ds : List Deferred) (l : Nat) (Hd : Nat → Prop) (W1 : World) : Env :=
  ⟨0, [], Keep (fun _ Hd G W => e.at_ p0 Hd G W ∧ W1.heap.size ≤ W.heap.size) (fun b => Hd b ∨ MarkB ds b ∨ b = l) W1, Keep (fun _ Hd G W => e.at_ p0 Hd G W ∧ W1.heap.size ≤ W.heap.size) (fun b => Hd b ∨ MarkB ds b ∨ b = l) W1⟩
theorem bodyEnv_ok (he : e.Ok P) : (bodyEnv e p0 ds l Hd W1).Ok P :=
  have st : Stable (fun _ Hd G W => e.at_ p0 Hd G W ∧ W1.heap.size ≤ W.heap.size) := fun _ _ _ _ _ _ _ h s => ⟨he.step h.1 s, Nat.le_trans h.2 s.beneath.size⟩
  ⟨Keep.stable st _ _, Keep.stable st _ _, fun k args _ _ _ h => by simp [bodyEnv] at h⟩
theorem bodyEnv_at {sv : SV} {Hd3 : Nat → Prop} : (bodyEnv e p0 ds l Hd W1).at_ sv Hd3 G2 W2 ↔ Keep (fun _ Hd G W => e.at_ p0 Hd G W ∧ W1.heap.size ≤ W.heap.size) (fun b => Hd b ∨ MarkB ds b ∨ b = l) W1 0 Hd3 G2 W2 := by
  unfold Env.at_
  split
  · rename_i k st; cases st <;> exact Iff.rfl
  · exact Iff.rfl

theorem Core.toBody (he : e.Ok P) (c : Core e p0 ds l o E1 H Hd G1 W1) {n bd : Nat} {fr : Nat → SV} {a : Act} (h1 : ∀ i, (fr i).ment (· < bd)) (h2 : ∀ h ob, H h = some ob → h < bd ∧ ob.ment (· < bd)) (h3 : ∀ i, (fr i).rel E1 (a.tmps.getD i undef)) (h4 : a.tmps.size = n) (h5 : a.defers = []) {M0 : Nat → Prop} (hM0 : ∀ k, M0 k → k < bd) :
    SatE (bodyEnv e p0 ds l Hd W1) [] n bd M0 E1 ⟨fr, H, G1⟩ a W1 := by
  refine SatE.of (M := (· < bd)) (E := E1) (r := ⟨W1, Hand E1 H, []⟩) (G0 := G1) (fun _ h => h) hM0 (Agree.refl _ _) ⟨bodyEnv_at.2 ⟨⟨he.step c.at_ (EnvStep.shrink c.sim.sub fun b hb => ?_), Nat.le_refl _⟩, fun b hb => ?_⟩, fun b hb => c.hand hb, c.sim.sub, ⟨(fun d hd => by cases hd), (fun D ⟨d, hd, _⟩ => by cases hd), List.Pairwise.nil⟩⟩ (Grow.refl _) ⟨c.sim.self [], h1, h2, h3, h4, h5⟩
  · have : HdOf ⟨W1, Hand E1 H, ds⟩ G1 b ∨ Hd b ∨ b = l := by
      rcases hb with (hb | ⟨d, hd, _⟩) | hb | hb | hb
      · exact .inl (.inl hb)
      · cases hd
      · exact .inr (.inl hb)
      · exact .inl (.inr hb)
      · exact .inr (.inr hb)
    exact ⟨this, c.priv b this⟩
  · have hn : ¬ Hand E1 H b → ¬ HdOf ⟨W1, Hand E1 H, []⟩ G1 b := fun hh h => by
      rcases h with h | ⟨d, hd, _⟩
      · exact hh h.1
      · cases hd
    rcases hb with hb | hb | hb
    · obtain ⟨k1, _, _, k4, k5⟩ := c.hd b hb
      exact ⟨k5, rfl, k4, hn k1⟩
    · obtain ⟨k1, k2, _⟩ := c.marks.at_ b hb
      exact ⟨c.mark hb, rfl, k2, hn k1⟩
    · subst hb
      exact ⟨c.low, rfl, c.rec_.2.1, hn c.rec_.2.2.1⟩

theorem Core.fromBody (he : e.Ok P) (c : Core e p0 ds l o E1 H Hd G1 W1) {n bd : Nat} {M0 : Nat → Prop} {E0 : Nat → Value} {σ : St} {a : Act} {ds3 : List Deferred} (h : SatE (bodyEnv e p0 ds l Hd W1) ds3 n bd M0 E0 σ a W2) :
    ∃ M E3, a.defers = ds3 ∧ (∀ k, M k → k < bd) ∧ (∀ k, M0 k → M k) ∧ Agree M0 E0 E3 ∧ Core e p0 ds l o E3 σ.H Hd σ.G W2 ∧ (∀ h ob, σ.H h = some ob → M h ∧ ob.ment M) ∧ (∀ i, (σ.fr i).ment M) ∧ (∀ i, (σ.fr i).rel E3 (a.tmps.getD i undef)) ∧ a.tmps.size = n ∧ W1.heap.size ≤ W2.heap.size ∧ ∀ b, Hd b → W2.heap[b]? = W1.heap[b]? ∧ σ.G b = none := by
  obtain ⟨M, E, k0, k1, k2, k3, k4, k5⟩ := h.now (bodyEnv_ok he)
  obtain ⟨⟨q1, q0⟩, q2⟩ := bodyEnv_at.1 k4.at_
  have hn : ∀ b, (Hd b ∨ MarkB ds b ∨ b = l) → ¬ Hand E σ.H b ∧ W2.heap[b]? = W1.heap[b]? ∧ σ.G b = none := fun b hb => by
    obtain ⟨r1, r2, r3, r4⟩ := q2 b hb
    exact ⟨fun hh => r4 (.inl ⟨hh, r3⟩), r2, r3⟩
  have hlow : ∀ b, (Hd b ∨ MarkB ds b ∨ b = l) → b < W2.heap.size := fun b hb => Keep.low (q2 b hb).1 (q2 b hb).2.1
  refine ⟨M, E, k0, k1, k2, k3, ⟨k5.sim.self ds, he.step q1 (EnvStep.shrink k5.sim.sub fun b hb => ?_), ⟨c.marks.each, fun D hD => ?_, c.marks.nodup⟩, ?_, fun b hb => ?_⟩, k5.mH, k5.mfr, k5.fr, k5.size, q0, fun b hb => (hn b (.inl hb)).2⟩
  · rcases hb with (hb | hb) | hb | hb
    · exact ⟨.inl (.inl hb), hb.2, k4.ln b hb.1⟩
    · exact ⟨.inr (.inr (.inl hb)), (hn b (.inr (.inl hb))).2.2, hlow b (.inr (.inl hb))⟩
    · exact ⟨.inr (.inl hb), (hn b (.inl hb)).2.2, hlow b (.inl hb)⟩
    · exact ⟨.inr (.inr (.inr hb)), (hn b (.inr (.inr hb))).2.2, hlow b (.inr (.inr hb))⟩
  · obtain ⟨r1, r2, r3⟩ := hn D (.inr (.inl hD))
    exact ⟨r1, r3, r2.trans (c.marks.at_ D hD).2.2⟩
  · obtain ⟨r1, r2, r3⟩ := hn l (.inr (.inr rfl))
    exact ⟨r2.trans c.rec_.1, r3, r1, c.rec_.2.2.2⟩
  · obtain ⟨r1, r2, r3⟩ := hn b (.inl hb)
    obtain ⟨_, s2, s3, _⟩ := c.hd b hb
    exact ⟨r1, s2, s3, r3, hlow b (.inl hb)⟩
end

theorem updP_rel {E : Nat → Value} : ∀ (ps : List Nat) (ys : List Value) (fr : Nat → SV) (tm : Array Value), (∀ p ∈ ps, p < tm.size) → (∀ i, (fr i).rel E (tm.getD i undef)) →
    (∀ i, (updP fr ps ys i).rel E (((ps.zip ys).foldl (fun t q => t.setIfInBounds q.1 q.2) tm).getD i undef)) ∧ ((ps.zip ys).foldl (fun t q => t.setIfInBounds q.1 q.2) tm).size = tm.size
  | [], _, _, _, _, h => ⟨h, rfl⟩
  | _ :: _, [], _, _, _, h => ⟨h, rfl⟩
  | p :: ps, y :: ys, fr, tm, hp, h => by
    obtain ⟨h1, h2⟩ := updP_rel ps ys (upd fr p (SV.of y)) (tm.setIfInBounds p y) (fun q hq => by simpa using hp q (by simp [hq])) (fun i => by
      have hlt := hp p (by simp)
      by_cases hi : i = p
      · subst hi
        rw [upd_same]
        have : (tm.setIfInBounds i y).getD i undef = y := by simp [Array.getD_eq_getD_getElem?, hlt]
        rw [this]; exact SV.of_rel E y
      · rw [upd_other _ _ hi]
        have : (tm.setIfInBounds p y).getD i undef = tm.getD i undef := by simp [Array.getD_eq_getD_getElem?, Array.getElem?_setIfInBounds, Ne.symm hi]
        rw [this]; exact h i)
    exact ⟨h1, by rw [List.zip_cons_cons, List.foldl_cons, h2]; simp⟩
theorem updP_ment {M : Nat → Prop} : ∀ (ps : List Nat) (ys : List Value) (fr : Nat → SV), (∀ i, (fr i).ment M) → ∀ i, (updP fr ps ys i).ment M
  | [], _, _, h => h
  | _ :: _, [], _, h => h
  | p :: ps, y :: ys, fr, h => updP_ment ps ys (upd fr p (SV.of y)) (fun i => by
    by_cases hi : i = p
    · subst hi; rw [upd_same]; exact SV.of_ment M y
    · rw [upd_other _ _ hi]; exact h i)

theorem mentS_ment {c : S1} {L : List Nat} (h : ∀ k ∈ mentS c, k ∈ L) : c.ment (· ∈ L) := by
  cases c <;> first | trivial | exact h _ (by simp [mentS])
theorem mentSV_ment {sv : SV} {L : List Nat} (h : ∀ k ∈ mentSV sv, k ∈ L) : sv.ment (· ∈ L) := by
  cases sv with
  | c x => exact mentS_ment h
  | agg cs =>
    intro c hc
    refine mentS_ment fun k hk => h k ?_
    simp only [mentSV]
    clear h
    induction cs with
    | nil => cases hc
    | cons d ds ih =>
      simp only [List.foldr_cons, List.mem_append]
      rcases List.mem_cons.1 hc with rfl | hc
      · exact .inl hk
      · exact .inr (ih hc)
theorem mentFr_ment {L : List Nat} : ∀ {l : List (Nat × SV)}, (∀ k ∈ mentFr l, k ∈ L) → ∀ i, (frOf l i).ment (· ∈ L)
  | [], _, _ => trivial
  | (j, sv) :: r, h, i => by
    simp only [mentFr, List.mem_append] at h
    simp only [frOf]
    cases Nat.beq i j with
    | true => exact mentSV_ment fun k hk => h k (.inl hk)
    | false => exact mentFr_ment (fun k hk => h k (.inr hk)) i
theorem ment_and {M M' : Nat → Prop} {c : S1} (h : c.ment M) (h' : c.ment M') : c.ment (fun k => M k ∧ M' k) := by cases c <;> first | trivial | exact ⟨h, h'⟩
theorem bd_mentS {b : Nat} {c : S1} (h : c.bd b = true) : ∀ k ∈ mentS c, k < b := by
  cases c <;> simp_all [S1.bd, mentS]
theorem bd_mentSV {b : Nat} {sv : SV} (h : sv.bd b = true) : ∀ k ∈ mentSV sv, k < b := by
  cases sv with
  | c x => exact bd_mentS h
  | agg cs =>
    have h' : allBd b cs = true := h
    clear h
    revert h'
    simp only [mentSV]
    intro h
    induction cs with
    | nil => intro k hk; cases hk
    | cons d ds ih =>
      simp only [allBd] at h
      cases hd : d.bd b with
      | false => rw [hd] at h; cases h
      | true =>
        rw [hd] at h
        intro k hk
        simp only [List.foldr_cons, List.mem_append] at hk
        rcases hk with hk | hk
        · exact bd_mentS hd k hk
        · exact ih h k hk
theorem bd_mentFr {b : Nat} : ∀ {l : List (Nat × SV)}, frBd b l = true → ∀ k ∈ mentFr l, k < b
  | [], _, k, hk => by cases hk
  | (j, sv) :: r, h, k, hk => by
    simp only [frBd] at h
    cases hb : sv.bd b with
    | false => rw [hb] at h; cases h
    | true =>
      rw [hb] at h
      simp only [mentFr, List.mem_append] at hk
      rcases hk with hk | hk
      · exact bd_mentSV hb k hk
      · exact bd_mentFr h k hk
end Go.Pal
