/- Two parties: the state of one of them; how it goes on behind the other's turn. -/
import Derived.Test.YtcmhpndhloplpaaPalN
import Derived.RangeFuncLeaves
import Derived.RangeFuncRecord
namespace Go.Pal
open Go.RowKit

def Env.at_ (e : Env) (sv : SV) (Hd : Nat → Prop) (G : Hp) (W : World) : Prop := match sv with
  | .c (.pos k st) => (cond st e.Jx e.J) k Hd G W
  | _ => e.J 0 Hd G W

theorem Env.Ok.step {P : Program} {e : Env} (he : e.Ok P) {sv : SV} {Hd Hd' : Nat → Prop} {G G' : Hp} {W W' : World} (h : e.at_ sv Hd G W) (s : EnvStep Hd G W Hd' G' W') : e.at_ sv Hd' G' W' := by
  unfold Env.at_ at *
  split at h
  · rename_i k st
    cases st
    · exact he.st _ _ _ _ _ _ _ h s
    · exact he.stx _ _ _ _ _ _ _ h s
  · exact he.st _ _ _ _ _ _ _ h s

theorem EnvStep.shrink {Hd Hd' : Nat → Prop} {G : Hp} {W : World} (hs : Sub G W) (h : ∀ b, Hd' b → Hd b ∧ G b = none ∧ b < W.heap.size) : EnvStep Hd G W Hd' G W :=
  ⟨⟨rfl, rfl, rfl, Nat.le_refl _, fun _ _ _ => rfl⟩, Grow.refl _, hs, fun _ _ h => .inl h, fun b hb => ⟨.inl (h b hb).1, (h b hb).2⟩⟩

def Hand (E : Nat → Value) (H : Nat → Option OB) (b : Nat) : Prop := ∃ h ob, H h = some ob ∧ blkOf (E h) = some b
def MarkB (ds : List Deferred) (b : Nat) : Prop := ∃ d ∈ ds, d = ⟨.collected b, #[]⟩
def HdOf (r : Root) (G : Hp) (b : Nat) : Prop := (r.ln b ∧ G b = none) ∨ MarkB r.ds b
structure MarksAt (ds : List Deferred) (ln : Nat → Prop) (G : Hp) (W : World) : Prop where
  each : ∀ d ∈ ds, ∃ D, d = ⟨.collected D, #[]⟩
  at_ : ∀ D, MarkB ds D → ¬ ln D ∧ G D = none ∧ W.heap[D]? = some (.deferred (some []))
  nodup : ds.Pairwise (· ≠ ·)

structure Rooted (e : Env) (p : SV) (r : Root) (G0 : Hp) : Prop where
  at_ : e.at_ p (HdOf r G0) G0 r.w
  ln : ∀ b, r.ln b → b < r.w.heap.size
  sub : Sub G0 r.w
  marks : MarksAt r.ds r.ln G0 r.w

theorem OB.ok_root {r r' : Root} {E : Nat → Value} {W : World} {h : Nat} {ob : OB} (ho : ob.ok r E W h) (hm : ∀ b, blkOf (E h) = some b → r'.mine b) : ob.ok r' E W h := by
  cases ob with
  | cells s cs t =>
    obtain ⟨b', vs, e, hb', hw, hr⟩ := ho
    exact ⟨b', vs, e, hm b' (by rw [e]; rfl), hw, hr⟩
  | row p n vs t k =>
    obtain ⟨ho, hc, _⟩ := ho
    exact ⟨ho, hc, hm⟩
  | map s es clock =>
    obtain ⟨b', e, hb', hw, hr⟩ := ho
    exact ⟨b', e, hm b' (by rw [e]; rfl), hw, hr⟩

section
variable {P : Program} {e : Env} {p : SV} {r : Root} {G0 G G' : Hp} {E : Nat → Value} {H : Nat → Option OB} {W W' : World}

theorem mark_low (hr : Rooted e p r G0) {D : Nat} (hD : MarkB r.ds D) : D < r.w.heap.size ∧ ¬ r.mine D := by
  obtain ⟨h1, _, h3⟩ := hr.marks.at_ D hD
  have := (Array.getElem?_eq_some_iff.1 h3).1
  exact ⟨this, fun h => h.elim (by omega) h1⟩

/-- What is known, told of the world as it is now. -/
theorem Rooted.now (he : e.Ok P) (hr : Rooted e p r G0) (hg : Grow G0 G) (hs : Sim r G0 E H G W) : Rooted e p ⟨W, Hand E H, r.ds⟩ G ∧ Sim ⟨W, Hand E H, r.ds⟩ G E H G W := by
  have hh : ∀ b, Hand E H b → r.mine b ∧ b < W.heap.size := fun b ⟨h, ob, e1, e2⟩ => OB.blk (hs.own h ob e1) e2
  have hG0 : ∀ b, G b = none → G0 b = none := fun b hb => by
    cases h : G0 b with
    | none => rfl
    | some o => rw [hg b o h] at hb; cases hb
  have hmk : ∀ D, MarkB r.ds D → ¬ Hand E H D ∧ G D = none ∧ W.heap[D]? = some (.deferred (some [])) := fun D hD => by
    obtain ⟨h1, h2, h3⟩ := hr.marks.at_ D hD
    obtain ⟨h4, h5⟩ := mark_low hr hD
    refine ⟨fun h => h5 (hh D h).1, ?_, (hs.below.block D h4 h1).trans h3⟩
    cases h : G D with
    | none => rfl
    | some o =>
      rcases hs.newG D o h with h6 | h6
      · rw [h2] at h6; cases h6
      · exact (h5 h6).elim
  have step : EnvStep (HdOf r G0) G0 r.w (HdOf ⟨W, Hand E H, r.ds⟩ G) G W := by
    refine ⟨⟨hs.below.os, hs.below.tape, hs.below.output, hs.below.size, fun k hk hn => ?_⟩, hg, hs.sub, ?_, ?_⟩
    · by_cases hl : r.ln k
      · cases h0 : G0 k with
        | none => exact (hn (.inl ⟨hl, h0⟩)).elim
        | some o => exact (hs.sub k o (hg k o h0)).trans (hr.sub k o h0).symm
      · exact hs.below.block k hk hl
    · intro b o h
      rcases hs.newG b o h with h1 | h1 | h1
      · exact .inl h1
      · exact .inr (.inr h1)
      · cases h0 : G0 b with
        | none => exact .inr (.inl (.inl ⟨h1, h0⟩))
        | some o' => have := hg b o' h0; rw [h] at this; cases this; exact .inl rfl
    · rintro b (⟨h1, h2⟩ | h1)
      · obtain ⟨h3, h4⟩ := hh b h1
        refine ⟨?_, h2, h4⟩
        rcases h3 with h3 | h3
        · exact .inr h3
        · exact .inl (.inl ⟨h3, hG0 b h2⟩)
      · obtain ⟨h2, h3, h4⟩ := hmk b h1
        exact ⟨.inl (.inr h1), h3, (Array.getElem?_eq_some_iff.1 h4).1⟩
  refine ⟨⟨he.step hr.at_ step, fun b hb => (hh b hb).2, hs.sub, ⟨hr.marks.each, hmk, hr.marks.nodup⟩⟩, ⟨Beneath.refl _, hs.sub, fun b o h => .inl h, fun h ob e1 => OB.ok_root (hs.own h ob e1) (fun b hb => .inr ⟨h, ob, e1, hb⟩), hs.pub, hs.priv, hs.inj⟩⟩

/-- Behind the other's turn. -/
theorem Rooted.after {ds : List Deferred} (hs : Sim ⟨W, Hand E H, ds⟩ G E H G W) (hm : MarksAt ds (Hand E H) G W) (hg : Grow G G') (hsub : Sub G' W') (hk : ∀ b, HdOf ⟨W, Hand E H, ds⟩ G b → W'.heap[b]? = W.heap[b]? ∧ G' b = none) :
    Sim ⟨W', Hand E H, ds⟩ G' E H G' W' ∧ MarksAt ds (Hand E H) G' W' ∧ ∀ b, Hand E H b → b < W'.heap.size ∧ W'.heap[b]? = W.heap[b]? := by
  have hh : ∀ b, Hand E H b → b < W.heap.size := fun b ⟨h, ob, e1, e2⟩ => (OB.blk (hs.own h ob e1) e2).2
  have same : ∀ b, Hand E H b → W'.heap[b]? = W.heap[b]? := fun b hb => by
    cases h : G b with
    | none => exact (hk b (.inl ⟨hb, h⟩)).1
    | some o => exact (hsub b o (hg b o h)).trans (hs.sub b o h).symm
  refine ⟨⟨Beneath.refl _, hsub, fun b o h => .inl h, fun h ob e1 => OB.ok_root (OB.ok_kept (hs.own h ob e1) (fun b hb => same b ⟨h, ob, e1, hb⟩)) (fun b hb => .inr ⟨h, ob, e1, hb⟩), ?_, ?_, hs.inj⟩, ⟨hm.each, ?_, hm.nodup⟩, ?_⟩
  · intro h ob v e1 e2
    obtain ⟨e3, e4⟩ := hs.pub h ob v e1 e2
    refine ⟨e3, fun b hb => ?_⟩
    have hb' : blkOf (E h) = some b := by rw [e3]; exact hb
    have hlt := hh b ⟨h, ob, e1, hb'⟩
    have e5 := e4 b hb
    rw [Array.getElem?_eq_getElem hlt] at e5
    have := hg b _ e5
    rw [this]; exact (hsub b _ this).symm
  · intro h ob e1 e2 b hb
    exact (hk b (.inl ⟨⟨h, ob, e1, hb⟩, hs.priv h ob e1 e2 b hb⟩)).2
  · intro D hD
    obtain ⟨h1, h2, h3⟩ := hm.at_ D hD
    obtain ⟨h4, h5⟩ := hk D (.inr hD)
    exact ⟨h1, h5, h4.trans h3⟩
  · intro b hb
    have := same b hb
    refine ⟨?_, this⟩
    rw [Array.getElem?_eq_getElem (hh b hb)] at this
    exact (Array.getElem?_eq_some_iff.1 this).1

structure SatE (e : Env) (ds : List Deferred) (n bd : Nat) (M0 : Nat → Prop) (E0 : Nat → Value) (σ : St) (a : Act) (W : World) : Prop where
  ex : ∃ r G0 M E, r.ds = ds ∧ (∀ k, M k → k < bd) ∧ (∀ k, M0 k → M k) ∧ Agree M0 E0 E ∧ Rooted e (σ.fr POS) r G0 ∧ Grow G0 σ.G ∧ Sat r G0 n M E σ a W

theorem Sat.sim' {r r' : Root} {G0 G1 : Hp} {n : Nat} {M : Nat → Prop} {E : Nat → Value} {σ : St} {a : Act} {W W' : World} (hs : Sat r G0 n M E σ a W) (h : Sim r' G1 E σ.H σ.G W') (hd : r'.ds = r.ds) : Sat r' G1 n M E σ a W' :=
  ⟨h, hs.mfr, hs.mH, hs.fr, hs.size, by rw [hd]; exact hs.defers⟩

theorem SatE.now {ds : List Deferred} {n bd : Nat} {M0 : Nat → Prop} {E0 : Nat → Value} {σ : St} {a : Act} (he : e.Ok P) (h : SatE e ds n bd M0 E0 σ a W) : ∃ M E, a.defers = ds ∧ (∀ k, M k → k < bd) ∧ (∀ k, M0 k → M k) ∧ Agree M0 E0 E ∧
    Rooted e (σ.fr POS) ⟨W, Hand E σ.H, a.defers⟩ σ.G ∧ Sat ⟨W, Hand E σ.H, a.defers⟩ σ.G n M E σ a W := by
  obtain ⟨r, G0, M, E, h0, h1, h2, h3, h4, h5, h6⟩ := h.ex
  obtain ⟨k1, k2⟩ := h4.now he h5 h6.sim
  rw [← h6.defers] at k1 k2
  exact ⟨M, E, h6.defers.trans h0, h1, h2, h3, k1, h6.sim' k2 h6.defers⟩

theorem SatE.of {ds : List Deferred} {n bd : Nat} {M0 M : Nat → Prop} {E0 : Nat → Value} {σ : St} {a : Act} (h1 : ∀ k, M k → k < bd) (h2 : ∀ k, M0 k → M k) (h3 : Agree M0 E0 E) (h4 : Rooted e (σ.fr POS) r G0) (h5 : Grow G0 σ.G) (h6 : Sat r G0 n M E σ a W) (h0 : r.ds = ds := by rfl) : SatE e ds n bd M0 E0 σ a W :=
  ⟨r, G0, M, E, h0, h1, h2, h3, h4, h5, h6⟩
end
end Go.Pal
