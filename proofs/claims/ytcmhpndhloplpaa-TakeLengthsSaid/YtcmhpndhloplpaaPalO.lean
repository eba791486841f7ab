/- What is published: a row, the cells of a block; that it may be published at any time. -/
import Derived.Test.YtcmhpndhloplpaaPalH
namespace Go.Pal
open Go.RowKit

structure PubP (G : Hp) (n : Nat) (vs : List Value) (A : Option Addr → Nat → Hp → Prop) : Prop where
  k : ∀ a c G', Grow G G' → PubRow G' a n c vs → W (A a c G')
structure PubCP (G : Hp) (vs : List Value) (A : Nat → Hp → Prop) : Prop where
  k : ∀ b G', Grow G G' → CellsAt G' b 0 vs → W (A b G')
structure FinP (p : Prop) : Prop where
  out : p

abbrev HK := (Nat → Option OB) → Hp → Prop

def rowK (H : Nat → Option OB) (G : Hp) (h : Nat) (K : Value → HK) : Prop := match H h with
  | some (.row (some v) _ _ _ _) => K v H G
  | some (.row none n vs t k) => PubP G n vs fun a c G' => K (.slice a n c) (upd H h (some (.row (some (.slice a n c)) n vs t k))) G'
  | _ => False

def c1K (H : Nat → Option OB) (G : Hp) (x : S1) (K : Value → HK) : Prop := match x with
  | .val v => K v H G
  | .sb b => K (.bool b) H G
  | .row h _ => rowK H G h K
  | _ => False

def clK (H : Nat → Option OB) (G : Hp) : List S1 → (List Value → HK) → Prop
  | [], K => K [] H G
  | c :: cs, K => c1K H G c fun v H1 G1 => clK H1 G1 cs fun vs H2 G2 => K (v :: vs) H2 G2

def closeK (H : Nat → Option OB) (G : Hp) (sv : SV) (K : Value → HK) : Prop := match sv with
  | .agg cs => clK H G cs fun vs H1 G1 => K (.agg vs.toArray) H1 G1
  | .c (.ptr h off) => match H h with
    | some (.cells (.pub b) _ _) => K (.pointer (some ⟨b, off, none⟩)) H G
    | some (.cells .anon cs t) => clK H G cs fun vs H1 G1 => match H1 h with
      | some (.cells .anon _ _) => PubCP G1 vs fun b G' => K (.pointer (some ⟨b, off, none⟩)) (upd H1 h (some (.cells (.pub b) (vs.map .val) t))) G'
      | _ => False
    | _ => False
  | .c x => c1K H G x K

section
variable {w0 : Root} {W : World} {G0 G : Hp} {E : Nat → Value} {H : Nat → Option OB} {M : Nat → Prop}

structure Good (w0 : Root) (G0 : Hp) (M : Nat → Prop) (E : Nat → Value) (W : World) (H : Nat → Option OB) (G : Hp) : Prop where
  sim : Sim w0 G0 E H G W
  mH : ∀ h ob, H h = some ob → M h ∧ ob.ment M

theorem Good.upd (hg : Good w0 G0 M E W H G) {h : Nat} {ob ob' : OB} {G' : Hp} (hh : H h = some ob) (hs : Sim w0 G0 E (upd H h (some ob')) G' W) (hm : ob'.ment M) : Good w0 G0 M E W (upd H h (some ob')) G' := by
  refine ⟨hs, fun k ob2 e => ?_⟩
  by_cases hk : k = h
  · subst hk; rw [upd_same] at e; cases e; exact ⟨(hg.mH _ _ hh).1, hm⟩
  · rw [upd_other _ _ hk] at e; exact hg.mH k ob2 e

theorem rowK_sound (hg : Good w0 G0 M E W H G) {h : Nat} {K : Value → HK} (hk : rowK H G h K) : ∃ H' G', K (E h) H' G' ∧ Grow G G' ∧ Good w0 G0 M E W H' G' ∧ (∀ k, (H k).isSome → (H' k).isSome) := by
  unfold rowK at hk
  split at hk
  · rename_i v _ _ _ _ e
    have := (hg.sim.pub h _ v e rfl).1
    exact ⟨H, G, this ▸ hk, Grow.refl _, hg, fun _ h => h⟩
  · rename_i n vs t k e
    obtain ⟨hown, h1⟩ := hg.sim.own h _ e
    have hsl : ∃ a c, E h = .slice a n c := by
      rcases hown.2 with ⟨e', rfl⟩ | ⟨g, cap, cur, e', _⟩
      · exact ⟨_, _, e'⟩
      · exact ⟨_, _, e'⟩
    obtain ⟨a, c, ea⟩ := hsl
    obtain ⟨b, hb⟩ : ∃ b, ∀ c, blkOf (E h) = some c → c = b := by
      cases hbl : blkOf (E h) with
      | none => exact ⟨0, fun c e => by cases e⟩
      | some b => exact ⟨b, fun c e => by cases e; rfl⟩
    obtain ⟨G', g1, g2, g3⟩ := hg.sim.publish (ob' := .row (some (E h)) n vs t k) e rfl hb ⟨hown, h1⟩ rfl
    have hpub : PubRow G' a n c vs := by
      rcases hown.2 with ⟨e', hn⟩ | ⟨g, cap, cur, e', _, hw, hnc, _, hsz, htake⟩
      · have hv : vs = [] := List.eq_nil_of_length_eq_zero (by rw [hown.1, hn, Nat.zero_mul])
        exact ⟨by omega, fun h => absurd hn h, fun j v hj => by rw [hv] at hj; simp at hj⟩
      · rw [ea] at e'; cases e'
        refine ⟨hnc, fun _ => rfl, fun j v hj => ?_⟩
        have := g2 g (by rw [ea]; rfl)
        rw [hw] at this
        simp only [rd1, ab_some, ao_some, this, Nat.zero_add]
        rw [← htake, List.getElem?_take] at hj
        split at hj
        · simpa using hj
        · cases hj
    have hkk := (hk.k a c G' g1 hpub).out
    rw [ea] at g3
    refine ⟨_, G', by rw [ea]; exact hkk, g1, hg.upd e g3 trivial, ?_⟩
    intro k hk2
    by_cases hkk : k = h
    · subst hkk; rw [upd_same]; rfl
    · rw [upd_other _ _ hkk]; exact hk2
  · exact hk.elim

theorem c1K_sound (hg : Good w0 G0 M E W H G) {x : S1} {v : Value} {K : Value → HK} (hr : x.rel E v) (hk : c1K H G x K) : ∃ H' G', K v H' G' ∧ Grow G G' ∧ Good w0 G0 M E W H' G' := by
  cases x with
  | val u => cases hr; exact ⟨H, G, hk, Grow.refl _, hg⟩
  | sb b => cases hr; exact ⟨H, G, hk, Grow.refl _, hg⟩
  | row h n =>
    obtain ⟨H', G', h1, h2, h3, _⟩ := rowK_sound hg hk
    exact ⟨H', G', hr.1 ▸ h1, h2, h3⟩
  | any => exact hk.elim
  | pos => exact hk.elim
  | ptr => exact hk.elim
  | rptr => exact hk.elim
  | mref => exact hk.elim
  | ptrx => exact hk.elim

theorem clK_sound : ∀ {cs : List S1} {vs : List Value} {H : Nat → Option OB} {G : Hp} {K : List Value → HK}, Good w0 G0 M E W H G → relL E cs vs → clK H G cs K → ∃ H' G', K vs H' G' ∧ Grow G G' ∧ Good w0 G0 M E W H' G'
  | [], [], H, G, K, hg, _, hk => ⟨H, G, hk, Grow.refl _, hg⟩
  | c :: cs, v :: vs, H, G, K, hg, hr, hk => by
    obtain ⟨H1, G1, k1, g1, hg1⟩ := c1K_sound hg hr.1 hk
    obtain ⟨H2, G2, k2, g2, hg2⟩ := clK_sound hg1 hr.2 k1
    exact ⟨H2, G2, k2, g1.trans g2, hg2⟩
  | [], _ :: _, _, _, _, _, hr, _ => hr.elim
  | _ :: _, [], _, _, _, _, hr, _ => hr.elim

theorem closeK_sound (hg : Good w0 G0 M E W H G) {sv : SV} {v : Value} {K : Value → HK} (hr : sv.rel E v) (hk : closeK H G sv K) : ∃ H' G', K v H' G' ∧ Grow G G' ∧ Good w0 G0 M E W H' G' := by
  unfold closeK at hk
  split at hk
  · obtain ⟨vs, rfl, hr⟩ := hr
    exact clK_sound hg hr hk
  · rename_i h off
    obtain ⟨b, e1, rfl⟩ := hr
    split at hk
    · rename_i b' _ _ e
      have := (hg.sim.pub h _ _ e rfl).1
      rw [e1] at this; cases this
      exact ⟨H, G, hk, Grow.refl _, hg⟩
    · rename_i cs t e
      obtain ⟨b', vs, e2, hb', hw, hrl, h1, _⟩ := hg.sim.own h _ e
      rw [e1] at e2; cases e2
      obtain ⟨H1, G1, k1, g1, hg1⟩ := clK_sound hg hrl hk
      split at k1
      · rename_i cs' t' eH1
        obtain ⟨b2, vs2, e2, hb2, hw2, hrl2, _⟩ := hg1.sim.own h _ eH1
        rw [e1] at e2; cases e2
        obtain ⟨G', p1, p2, p3⟩ := hg1.sim.publish (b := b) (ob' := .cells (.pub b) (vs.map .val) t) eH1 rfl (fun c ec => by rw [e1] at ec; simp [blkOf] at ec; exact ec.symm)
          ⟨b, vs, e1, hb', hw, relL_vals E vs, h1, rfl⟩ (by rw [e1]; rfl)
        refine ⟨_, G', (k1.k b G' p1 ?_).out, g1.trans p1, ?_⟩
        · intro j v hj
          have := p2 b (by rw [e1]; rfl)
          rw [hw] at this
          simp only [rd1, this, Nat.zero_add]
          simpa using hj
        · exact hg1.upd eH1 p3 (fun c hc => by obtain ⟨v, _, rfl⟩ := List.mem_map.1 hc; trivial)
      · exact k1.elim
    · exact hk.elim
  · exact c1K_sound hg hr hk
end


/-! ### Publishing what calls will be given -/

def pubR (H : Nat → Option OB) (G : Hp) (h : Nat) (K : HK) : Prop := match H h with
  | some (.row none n vs t k) => PubP G n vs fun a c G' => K (upd H h (some (.row (some (.slice a n c)) n vs t k))) G'
  | _ => K H G
def pubL (H : Nat → Option OB) (G : Hp) : List S1 → HK → Prop
  | [], K => K H G
  | .row h _ :: r, K => pubR H G h fun H' G' => pubL H' G' r K
  | _ :: r, K => pubL H G r K
def pubV (H : Nat → Option OB) (G : Hp) (sv : SV) (K : HK) : Prop := match sv with
  | .c (.row h _) => pubR H G h K
  | .agg cs => pubL H G cs K
  | .c (.ptr h _) => match H h with
    | some (.cells s cs _) => cond s.own (pubL H G cs K) (K H G)
    | _ => K H G
  | _ => K H G
def pubS (fr : Nat → SV) (H : Nat → Option OB) (G : Hp) : List Nat → HK → Prop
  | [], K => K H G
  | i :: r, K => pubV H G (fr i) fun H' G' => pubS fr H' G' r K

/-! ### Naming what function values will hold -/

structure NameP (A : Nat → Prop) : Prop where
  k : ∀ b, W (A b)
def namR (H : Nat → Option OB) (h : Nat) (K : (Nat → Option OB) → Prop) : Prop := match H h with
  | some (.cells .anon cs t) => NameP fun b => K (upd H h (some (.cells (.named b) cs t)))
  | some (.map .anon es c) => NameP fun b => K (upd H h (some (.map (.named b) es c)))
  | _ => K H
/-- The maps that a block holds. -/
def namM (H : Nat → Option OB) : List S1 → ((Nat → Option OB) → Prop) → Prop
  | [], K => K H
  | .mref h :: r, K => namR H h fun H' => namM H' r K
  | _ :: r, K => namM H r K
def namV (H : Nat → Option OB) (sv : SV) (K : (Nat → Option OB) → Prop) : Prop := match sv with
  | .c (.ptr h _) => namR H h fun H' => match H' h with
    | some (.cells (.named _) cs _) => namM H' cs K
    | _ => K H'
  | .c (.mref h) => namR H h K
  | _ => K H
def namS (fr : Nat → SV) (H : Nat → Option OB) : List Nat → ((Nat → Option OB) → Prop) → Prop
  | [], K => K H
  | i :: r, K => namV H (fr i) fun H' => namS fr H' r K

section
variable {w0 : Root} {W : World} {G0 G : Hp} {E : Nat → Value} {H : Nat → Option OB} {M : Nat → Prop}

theorem good_rename (hg : Good w0 G0 M E W H G) {h : Nat} {ob ob' : OB} (hh : H h = some ob) (hp : ob.pub = none) (hp' : ob'.pub = none) (hok : ob'.ok w0 E W h) (hm : ob'.ment M) : Good w0 G0 M E W (upd H h (some ob')) G := by
  have hs := hg.sim
  have back : ∀ k ob2, upd H h (some ob') k = some ob2 → (k = h ∧ ob2 = ob') ∨ (k ≠ h ∧ H k = some ob2) := fun k ob2 e => by
    by_cases hk : k = h
    · subst hk; rw [upd_same] at e; cases e; exact .inl ⟨rfl, rfl⟩
    · rw [upd_other _ _ hk] at e; exact .inr ⟨hk, e⟩
  refine ⟨⟨hs.below, hs.sub, hs.newG, ?_, ?_, ?_, ?_⟩, ?_⟩
  · intro k ob2 e
    rcases back k ob2 e with ⟨rfl, rfl⟩ | ⟨_, e⟩
    · exact hok
    · exact hs.own k ob2 e
  · intro k ob2 v e e2
    rcases back k ob2 e with ⟨rfl, rfl⟩ | ⟨_, e⟩
    · rw [hp'] at e2; cases e2
    · exact hs.pub k ob2 v e e2
  · intro k ob2 e e2
    rcases back k ob2 e with ⟨rfl, rfl⟩ | ⟨_, e⟩
    · exact hs.priv k ob hh hp
    · exact hs.priv k ob2 e e2
  · intro k ob2 k' ob3 b e e2 e3 e4 e5
    rcases back k ob2 e with ⟨q1, q2⟩ | ⟨_, f⟩ <;> rcases back k' ob3 e2 with ⟨q3, q4⟩ | ⟨_, f2⟩
    · rw [q1, q3]
    · exact hs.inj k ob k' ob3 b (q1 ▸ hh) f2 hp e4 e5
    · exact hs.inj k ob2 k' ob b f (q3 ▸ hh) e3 e4 e5
    · exact hs.inj k ob2 k' ob3 b f f2 e3 e4 e5
  · intro k ob2 e
    rcases back k ob2 e with ⟨rfl, rfl⟩ | ⟨_, e⟩
    · exact ⟨(hg.mH _ _ hh).1, hm⟩
    · exact hg.mH k ob2 e

theorem namR_sound (hg : Good w0 G0 M E W H G) {h : Nat} {K : (Nat → Option OB) → Prop} (hk : namR H h K) : ∃ H', K H' ∧ Good w0 G0 M E W H' G := by
  unfold namR at hk
  split at hk
  · rename_i cs t e
    obtain ⟨b, vs, e1, e2, e3, e4, e5, _⟩ := hg.sim.own h _ e
    exact ⟨_, (hk.k b).out, good_rename hg (ob' := .cells (.named b) cs t) e rfl rfl ⟨b, vs, e1, e2, e3, e4, e5, rfl⟩ (hg.mH h _ e).2⟩
  · rename_i es c e
    obtain ⟨b, e1, e2, e3, _⟩ := hg.sim.own h _ e
    exact ⟨_, (hk.k b).out, good_rename hg (ob' := .map (.named b) es c) e rfl rfl ⟨b, e1, e2, e3, rfl⟩ trivial⟩
  · exact ⟨H, hk, hg⟩
theorem namM_sound : ∀ {cs : List S1} {H : Nat → Option OB} {K : (Nat → Option OB) → Prop}, Good w0 G0 M E W H G → namM H cs K → ∃ H', K H' ∧ Good w0 G0 M E W H' G
  | [], H, K, hg, hk => ⟨H, hk, hg⟩
  | c :: cs, H, K, hg, hk => by
    cases c with
    | mref h =>
      obtain ⟨H1, k1, g1⟩ := namR_sound hg hk
      exact namM_sound g1 k1
    | _ => exact namM_sound (cs := cs) hg hk
theorem namS_sound {fr : Nat → SV} : ∀ {l : List Nat} {H : Nat → Option OB} {K : (Nat → Option OB) → Prop}, Good w0 G0 M E W H G → namS fr H l K → ∃ H', K H' ∧ Good w0 G0 M E W H' G
  | [], H, K, hg, hk => ⟨H, hk, hg⟩
  | i :: r, H, K, hg, hk => by
    simp only [namS, namV] at hk
    split at hk
    · obtain ⟨H1, k1, g1⟩ := namR_sound hg hk
      split at k1
      · obtain ⟨H2, k2, g2⟩ := namM_sound g1 k1
        exact namS_sound g2 k2
      · exact namS_sound g1 k1
    · obtain ⟨H1, k1, g1⟩ := namR_sound hg hk
      exact namS_sound g1 k1
    · exact namS_sound hg hk

theorem pubR_sound (hg : Good w0 G0 M E W H G) {h : Nat} {K : HK} (hk : pubR H G h K) : ∃ H' G', K H' G' ∧ Grow G G' ∧ Good w0 G0 M E W H' G' := by
  unfold pubR at hk
  split at hk
  · rename_i n vs t k e
    have hk' : rowK H G h fun v H' G' => K H' G' := by
      unfold rowK
      rw [e]
      exact hk
    obtain ⟨H', G', h1, h2, h3, _⟩ := rowK_sound hg hk'
    exact ⟨H', G', h1, h2, h3⟩
  · exact ⟨H, G, hk, Grow.refl _, hg⟩
theorem pubL_sound : ∀ {cs : List S1} {H : Nat → Option OB} {G : Hp} {K : HK}, Good w0 G0 M E W H G → pubL H G cs K → ∃ H' G', K H' G' ∧ Grow G G' ∧ Good w0 G0 M E W H' G'
  | [], H, G, K, hg, hk => ⟨H, G, hk, Grow.refl _, hg⟩
  | c :: cs, H, G, K, hg, hk => by
    cases c with
    | row h n =>
      obtain ⟨H1, G1, k1, g1, hg1⟩ := pubR_sound hg hk
      obtain ⟨H2, G2, k2, g2, hg2⟩ := pubL_sound hg1 k1
      exact ⟨H2, G2, k2, g1.trans g2, hg2⟩
    | _ => exact pubL_sound (cs := cs) hg hk
theorem pubV_sound (hg : Good w0 G0 M E W H G) {sv : SV} {K : HK} (hk : pubV H G sv K) : ∃ H' G', K H' G' ∧ Grow G G' ∧ Good w0 G0 M E W H' G' := by
  unfold pubV at hk
  split at hk
  · exact pubR_sound hg hk
  · exact pubL_sound hg hk
  · split at hk
    · rename_i s cs t _
      cases hs : s.own with
      | true => rw [hs] at hk; exact pubL_sound hg hk
      | false => rw [hs] at hk; exact ⟨H, G, hk, Grow.refl _, hg⟩
    · exact ⟨H, G, hk, Grow.refl _, hg⟩
  · exact ⟨H, G, hk, Grow.refl _, hg⟩
theorem pubS_sound {fr : Nat → SV} : ∀ {l : List Nat} {H : Nat → Option OB} {G : Hp} {K : HK}, Good w0 G0 M E W H G → pubS fr H G l K → ∃ H' G', K H' G' ∧ Grow G G' ∧ Good w0 G0 M E W H' G'
  | [], H, G, K, hg, hk => ⟨H, G, hk, Grow.refl _, hg⟩
  | i :: r, H, G, K, hg, hk => by
    obtain ⟨H1, G1, k1, g1, hg1⟩ := pubV_sound hg hk
    obtain ⟨H2, G2, k2, g2, hg2⟩ := pubS_sound hg1 k1
    exact ⟨H2, G2, k2, g1.trans g2, hg2⟩

theorem Sat.pub {n : Nat} {σ : St} {a : Act} {H' : Nat → Option OB} {G' : Hp} (hs : Sat w0 G0 n M E σ a W) (hg : Good w0 G0 M E W H' G') : Sat w0 G0 n M E ⟨σ.fr, H', G'⟩ a W := ⟨hg.sim, hs.mfr, hg.mH, hs.fr, hs.size, hs.defers⟩
end

/-! ### What calls look at -/

def Opd.looks : Opd → List Nat
  | .t i => [i]
  | _ => []
def looksL : List Opd → List Nat
  | [] => []
  | x :: r => x.looks ++ looksL r
def IOp.isCallv : IOp → Bool
  | .callv .. => true
  | _ => false
def callLooks : IOp → List Nat
  | .call _ args => looksL args
  | .callv _ args => looksL args
  | .slc _ x _ _ _ => x.looks
  | .mkf _ first _ => looksL first
  | _ => []
theorem pubR_mono {H : Nat → Option OB} {G : Hp} {h : Nat} {K K' : HK} (hk : ∀ H G, K H G → K' H G) (h1 : pubR H G h K) : pubR H G h K' := by
  unfold pubR at *
  split at h1
  · exact ⟨fun a c G' hg hp => ⟨hk _ _ (h1.k a c G' hg hp).out⟩⟩
  · exact hk _ _ h1
theorem pubL_mono {K K' : HK} (hk : ∀ H G, K H G → K' H G) : ∀ {cs : List S1} {H : Nat → Option OB} {G : Hp}, pubL H G cs K → pubL H G cs K'
  | [], _, _, h => hk _ _ h
  | c :: cs, H, G, h => by
    cases c with
    | row i n => exact pubR_mono (fun H G h => pubL_mono hk h) h
    | _ => exact pubL_mono (cs := cs) hk h
theorem pubV_mono {H : Nat → Option OB} {G : Hp} {sv : SV} {K K' : HK} (hk : ∀ H G, K H G → K' H G) (h : pubV H G sv K) : pubV H G sv K' := by
  unfold pubV at *
  split at h
  · exact pubR_mono hk h
  · exact pubL_mono hk h
  · split at h
    · rename_i s _ _ _
      cases hs : s.own with
      | true => rw [hs] at h; exact pubL_mono hk h
      | false => rw [hs] at h; exact hk _ _ h
    · exact hk _ _ h
  · exact hk _ _ h
theorem pubS_mono {fr : Nat → SV} {K K' : HK} (hk : ∀ H G, K H G → K' H G) : ∀ {l : List Nat} {H : Nat → Option OB} {G : Hp}, pubS fr H G l K → pubS fr H G l K'
  | [], _, _, h => hk _ _ h
  | _ :: _, _, _, h => pubV_mono (fun H G h => pubS_mono hk h) h
end Go.Pal
