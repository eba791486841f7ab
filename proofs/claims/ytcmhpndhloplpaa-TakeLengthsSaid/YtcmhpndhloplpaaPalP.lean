/- Contracts with a ghost; published slices: lemmas for their use. -/
import Derived.Test.YtcmhpndhloplpaaPalK
namespace Go.Pal
open Go.RowKit

abbrev GRel (α : Type) := List Value → Hp → α → Prop

structure GOk {α : Type} (R : GRel α) : Prop where
  uniq : ∀ args G x y, R args G x → R args G y → x = y
  grow : ∀ args G G' x, Grow G G' → R args G x → R args G' x

/-- The arguments are read as x; the result is as q says of x. -/
def gsca {α : Type} (R : GRel α) (q : α → Value → Prop) : PSpec := .sca (fun args G => ∃ x, R args G x) (fun args G v => ∃ x, R args G x ∧ q x v)
def grel {α : Type} (R : GRel α) (q : α → Value → Hp → Prop) : PSpec := .rel (fun args G => ∃ x, R args G x) (fun args v G' => ∃ x, R args G' x ∧ q x v G')
def gown {α : Type} (t : TypeId) (k : Nat) (R : GRel α) (q : α → Nat → List Value → Prop) : PSpec := .own t k (fun args G => ∃ x, R args G x) (fun args n vs G' => ∃ x, R args G' x ∧ q x n vs)

section
variable {P : Program} {f : FuncId} {ic : IC} {rs : List IRes} {nt : Nat} {α : Type} {R : GRel α}

theorem Comp.gsca (C : Comp P f ic rs nt) (T : Tab P) {q : α → Value → Prop} (hn : ∀ args G x, R args G x → args.length ≤ nt) (h : ∀ args G x, R args G x → funVC P T.get ic rs args G fun v _ => q x v) : Sound P f id (gsca R q) :=
  fun args G W hs ⟨x, hx⟩ => (C.calls T (hn args G x hx) hs (h args G x hx)).mono fun e W' ⟨v, _, h1, h2, _, _, _, h3⟩ => ⟨v, h1, ⟨x, hx, h2⟩, h3⟩
theorem Comp.grel (C : Comp P f ic rs nt) (T : Tab P) (ok : GOk R) {q : α → Value → Hp → Prop} (hn : ∀ args G x, R args G x → args.length ≤ nt) (hm : ∀ x v G G', Grow G G' → q x v G → q x v G') (h : ∀ args G x, R args G x → funVC P T.get ic rs args G fun v G' => q x v G') : Sound P f id (grel R q) :=
  ⟨fun args v G G' hg ⟨x, h1, h2⟩ => ⟨x, ok.grow _ _ _ _ hg h1, hm _ _ _ _ hg h2⟩, fun args G W hs ⟨x, hx⟩ => (C.calls T (hn args G x hx) hs (h args G x hx)).mono fun e W' ⟨v, G', h1, h2, h3, h4, h5, h6⟩ => ⟨v, G', h1, ⟨x, ok.grow _ _ _ _ h3 hx, h2⟩, h3, h4, h5, h6⟩⟩

theorem Comp.gown (C : Comp P f ic rs nt) (T : Tab P) (ok : GOk R) {t : TypeId} {k : Nat} {q : α → Nat → List Value → Prop} (hn : ∀ args G x, R args G x → args.length ≤ nt) (h : ∀ args G x, R args G x → ownVC P T.get t k ic rs args G fun n vs _ => q x n vs) : Sound P f id (gown t k R q) :=
  ⟨fun args n vs G G' hg ⟨x, h1, h2⟩ => ⟨x, ok.grow _ _ _ _ hg h1, h2⟩, fun args G W hs ⟨x, hx⟩ => (C.owns T (hn args G x hx) hs (h args G x hx)).mono fun e W' ⟨v, n, vs, G', h1, h2, h3, h4, h5, h6, h7, h8⟩ => ⟨v, n, vs, G', h1, ⟨x, ok.grow _ _ _ _ h7 hx, h2⟩, h3, h4, h5, h6, h7, h8⟩⟩
theorem ScaP.g (ok : GOk R) {q : α → Value → Prop} {args : List Value} {G : Hp} {A : Value → Prop} {x : α} (hx : R args G x) (h : ∀ v, q x v → W (A v)) : ScaP (∃ x, R args G x) (fun v => ∃ x, R args G x ∧ q x v) A :=
  ⟨⟨x, hx⟩, fun v ⟨y, hy, hq⟩ => h v ((ok.uniq _ _ _ _ hy hx) ▸ hq)⟩
theorem RelP.g (ok : GOk R) {q : α → Value → Hp → Prop} {args : List Value} {Gr G : Hp} {A : Value → Hp → Prop} {x : α} (hx : R args Gr x) (hg : Grow Gr G) (h : ∀ v G', Grow G G' → q x v G' → W (A v G')) : RelP (∃ x, R args Gr x) G (fun v G' => ∃ x, R args G' x ∧ q x v G') A :=
  ⟨⟨x, hx⟩, fun v G' hg' ⟨y, hy, hq⟩ => h v G' hg' ((ok.uniq _ _ _ _ hy (ok.grow _ _ _ _ (hg.trans hg') hx)) ▸ hq)⟩
theorem OwnP.g (ok : GOk R) {q : α → Nat → List Value → Prop} {args : List Value} {Gr G : Hp} {A : Nat → List Value → Hp → Prop} {x : α} (hx : R args Gr x) (hg : Grow Gr G) (h : ∀ n vs G', Grow G G' → q x n vs → W (A n vs G')) : OwnP (∃ x, R args Gr x) G (fun n vs G' => ∃ x, R args G' x ∧ q x n vs) A :=
  ⟨⟨x, hx⟩, fun n vs G' hg' ⟨y, hy, hq⟩ => h n vs G' hg' ((ok.uniq _ _ _ _ hy (ok.grow _ _ _ _ (hg.trans hg') hx)) ▸ hq)⟩
end

theorem HeadP.of {pb : List Nat} {fr : Nat → SV} {H : Nat → Option OB} {G : Hp} {fl : List (Nat × SV)} {hl : List (Nat × OB)} (π : List (Nat × Option Nat)) (h1 : frV π ⟨fr, H, G⟩ fl) (h2 : HV π ⟨fr, H, G⟩ hl) (h3 : injB π hl = true := by rfl) (h4 : avoid π pb = true := by rfl) (h5 : fr POS = frOf fl POS := by rfl) : HeadP pb ⟨fr, H, G⟩ fl hl := ⟨⟨π, h1, h2, h3, h4⟩, h5⟩
theorem LoopP.of {pb : List Nat} {fr : Nat → SV} {H : Nat → Option OB} {G : Hp} {bd : Nat} {A : (I : Inv) → I.α → Hp → Prop} (I : Inv) (x0 : I.α) (h1 : HeadP pb ⟨fr, H, G⟩ (I.fr x0) (I.H x0)) (h3 : I.ok x0 G)
    (hb : ∀ x, frBd bd (I.fr x) = true ∧ HBd bd (I.H x) = true) (hr : ∀ x G', Grow G G' → I.ok x G' → W (A I x G')) : LoopP pb ⟨fr, H, G⟩ bd A := ⟨I, ⟨x0, h1, h3⟩, hb, hr⟩
theorem RoundP.of {pb : List Nat} {I : Inv} {x : I.α} {fr : Nat → SV} {H : Nat → Option OB} {G : Hp} (x' : I.α) (h1 : HeadP pb ⟨fr, H, G⟩ (I.fr x') (I.H x')) (h3 : I.ok x' G) (h4 : I.m x' < I.m x) : RoundP pb I x ⟨fr, H, G⟩ := ⟨x', h1, h3, h4⟩
theorem RoundR.of {pb : List Nat} {I : RInv} {x : I.α} {fr : Nat → SV} {H : Nat → Option OB} {G : Hp} (x' : I.α) (π : List (Nat × Option Nat)) (h2 : HV π ⟨fr, H, G⟩ (I.H x')) (h3 : I.ok x' G) (h4 : I.k x' = I.k x + 1) (h5 : injB π (I.H x') = true := by rfl) (h6 : avoid π pb = true := by rfl) : RoundR pb I x ⟨fr, H, G⟩ := ⟨x', ⟨π, h2, h5, h6⟩, h3, h4⟩
theorem RangeP.of {P : Program} {pb : List Nat} {fr : Nat → SV} {H : Nat → Option OB} {G : Hp} {bd np : Nat} {v : Value} {A : (I : RInv) → I.α → List Value → Hp → Prop} {B : (I : RInv) → I.α → Hp → Prop} {pre : Nat → List Value → Hp → List (List Value) → Prop} {post : Bool → Value → Prop} (Ys : List (List Value)) (I : RInv) (x0 : I.α) (hs : SoundFn P v (.seq pre post))
    (hpre : ∀ l, pre l [.func (.yield l) #[] #[]] G Ys) (hlen : ∀ y ∈ Ys, y.length = np) (h0 : I.k x0 = 0) (h1 : HeadP pb ⟨fr, H, G⟩ I.fr (I.H x0)) (h2 : I.ok x0 G) (hb : frBd bd I.fr = true ∧ ∀ x, HBd bd (I.H x) = true) (hm : ∀ x G G', Grow G G' → I.ok x G → I.ok x G')
    (hr : ∀ x y G', Grow G G' → I.ok x G' → Ys[I.k x]? = some y → W (A I x y G')) (hd : ∀ x G', Grow G G' → I.ok x G' → I.k x = Ys.length → W (B I x G')) : RangeP P pb ⟨fr, H, G⟩ bd np v A B :=
  ⟨pre, post, Ys, I, hs, hpre, hlen, ⟨x0, h0, h1, h2⟩, hb, hm, hr, hd⟩
theorem SoundFn.of {P : Program} {g : FuncId} {first cap : Array Value} {s : PSpec} (hb : HasBody P g) (hs : Sound P g (fun args => first.toList ++ args ++ cap.toList) s) : SoundFn P (.func (.func g) first cap) s := ⟨g, first, cap, rfl, hb, hs⟩

/-! ### Published slices -/

section
variable {α : Type} {k : Nat} {R : Hp → List Value → α → Prop} {G : Hp} {a : Option Addr} {n c : Nat} {l : List α}

theorem SlR.uniq {l' : List α} (hR : ∀ cs x y, R G cs x → R G cs y → x = y) (h : SlR k R G a n c l) (h' : SlR k R G a n c l') : l = l' := by
  apply List.ext_getElem (by rw [h.len, h'.len])
  intro i h1 h2
  obtain ⟨cs, a1, a2, a3⟩ := h.at_ i h1
  obtain ⟨cs', b1, b2, b3⟩ := h'.at_ i h2
  have := a2.eq b2 (by omega)
  subst this
  exact hR _ _ _ a3 b3

/-- The address of an element. -/
theorem SlR.adr (h : SlR k R G a n c l) {j : Int} (hj : 0 ≤ j ∧ j < (n : Int)) : a = Option.some ⟨ab a, ao a, none⟩ := h.some (by omega)
theorem SlR.cells (h : SlR k R G a n c l) {j : Nat} (hj : j < l.length) : ∃ cs, cs.length = k ∧ CellsAt G (ab a) (ao a + j * k) cs ∧ R G cs l[j] := h.at_ j hj
end

theorem CellsAt.drop {G : Hp} {b off d n : Nat} {cs : List Value} (h : CellsAt G b off cs) : CellsAt G b (off + d) ((cs.drop d).take n) := by
  intro j v hj
  rw [List.getElem?_take] at hj
  split at hj
  · rw [List.getElem?_drop] at hj
    have := h _ _ hj
    rwa [← Nat.add_assoc] at this
  · cases hj

/-- Reading cells that are known. -/
theorem RdP.of {G : Hp} {b off n : Nat} {A : List Value → Prop} (cs : List Value) (h1 : cs.length = n) (h2 : CellsAt G b off cs) (h3 : W (A cs)) : RdP G b off n A := ⟨cs, h1, h2, h3⟩
end Go.Pal
