/- The ghost heap, symbolic values, own blocks, and what it is for a world to fit a symbolic state: no program is spoken of. -/
import Derived.WalkKit
import Derived.OrdersIn
import Derived.Below
import Derived.Laws.AppendOwn
namespace Go.Pal
open Go.RowKit

/-- What is published: blocks that nobody writes any more. -/
abbrev Hp := Nat → Option Obj

def Grow (G G' : Hp) : Prop := ∀ b o, G b = some o → G' b = some o
def Sub (G : Hp) (W : World) : Prop := ∀ b o, G b = some o → W.heap[b]? = some o

theorem Grow.refl (G : Hp) : Grow G G := fun _ _ h => h
theorem Grow.trans {G G' G'' : Hp} (h : Grow G G') (h' : Grow G' G'') : Grow G G'' := fun b o e => h' b o (h b o e)
theorem Sub.grow {G G' : Hp} {W : World} (h : Grow G G') (h' : Sub G' W) : Sub G W := fun b o e => h' b o (h b o e)

def rd1 (G : Hp) (b off : Nat) : Option Value :=
  match G b with
  | some (.cells c _ _) => c[off]?
  | _ => none
def CellsAt (G : Hp) (b off : Nat) (cs : List Value) : Prop := ∀ j v, cs[j]? = some v → rd1 G b (off + j) = some v

theorem rd1_grow {G G' : Hp} (h : Grow G G') {b off : Nat} {v : Value} (e : rd1 G b off = some v) : rd1 G' b off = some v := by
  unfold rd1 at *
  cases hg : G b with
  | none => simp [hg] at e
  | some o => rw [h b o hg]; simpa [hg] using e
theorem CellsAt.grow {G G' : Hp} (h : Grow G G') {b off : Nat} {cs : List Value} (e : CellsAt G b off cs) : CellsAt G' b off cs :=
  fun j v hj => rd1_grow h (e j v hj)
theorem CellsAt.eq {G : Hp} {b off : Nat} {cs cs' : List Value} (h : CellsAt G b off cs) (h' : CellsAt G b off cs') (hl : cs.length = cs'.length) : cs = cs' := by
  apply List.ext_getElem hl
  intro i h1 h2
  have a := h i _ (List.getElem?_eq_getElem h1)
  have b := h' i _ (List.getElem?_eq_getElem h2)
  rw [a] at b
  exact Option.some.inj b
theorem rd1_cell {G : Hp} {W : World} (h : Sub G W) {b off : Nat} {v : Value} (e : rd1 G b off = some v) : W.cell? ⟨b, off, none⟩ = some v := by
  unfold rd1 at e
  unfold World.cell?
  cases hg : G b with
  | none => simp [hg] at e
  | some o => rw [show W.heap[(⟨b, off, none⟩ : Addr).block]? = some o from h b o hg]; cases o <;> simp_all

def ab (a : Option Addr) : Nat := (a.getD default).block
def ao (a : Option Addr) : Nat := (a.getD default).off
@[simp] theorem ab_some (b off : Nat) : ab (some ⟨b, off, none⟩) = b := rfl
@[simp] theorem ao_some (b off : Nat) : ao (some ⟨b, off, none⟩) = off := rfl

/-- A published slice: k cells an element, each read by R. -/
structure SlR {α : Type} (k : Nat) (R : Hp → List Value → α → Prop) (G : Hp) (a : Option Addr) (n c : Nat) (l : List α) : Prop where
  len : l.length = n
  cap : n ≤ c
  some : n ≠ 0 → a = some ⟨ab a, ao a, none⟩
  at_ : ∀ i (h : i < l.length), ∃ cs, cs.length = k ∧ CellsAt G (ab a) (ao a + i * k) cs ∧ R G cs l[i]

theorem SlR.grow {α : Type} {k : Nat} {R : Hp → List Value → α → Prop} {G G' : Hp} {a : Option Addr} {n c : Nat} {l : List α} (hR : ∀ cs x, R G cs x → R G' cs x) (h : SlR k R G a n c l) (g : Grow G G') : SlR k R G' a n c l :=
  ⟨h.len, h.cap, h.some, fun i hi => let ⟨cs, h1, h2, h3⟩ := h.at_ i hi; ⟨cs, h1, h2.grow g, hR _ _ h3⟩⟩

/-! ### Symbolic values -/

inductive S1 where
  | any
  | val (v : Value)
  | sb (b : Bool)
  | ptr (h off : Nat)
  | rptr (h off : Nat)
  | row (h n : Nat)
  | mref (h : Nat)
  | ptrx (h off : Nat)
  /-- how far an iterator has come (of no slot that the machine has) -/
  | pos (k : Nat) (st : Bool)

inductive SV where
  | c (x : S1)
  | agg (cs : List S1)

abbrev SV.v (v : Value) : SV := .c (.val v)

def S1.rel (E : Nat → Value) : S1 → Value → Prop
  | .any, _ => True
  | .val v, x => x = v
  | .sb b, x => x = .bool b
  | .ptr h off, x => ∃ b, E h = .pointer (some ⟨b, 0, none⟩) ∧ x = .pointer (some ⟨b, off, none⟩)
  | .rptr h off, x => ∃ b n c, E h = .slice (some ⟨b, 0, none⟩) n c ∧ x = .pointer (some ⟨b, off, none⟩)
  | .row h n, x => x = E h ∧ ∃ a c, E h = .slice a n c
  | .mref h, x => x = E h ∧ ∃ b, E h = .map (some b)
  | .ptrx h off, x => ∃ b, E h = .pointer (some ⟨b, 0, none⟩) ∧ x = .pointer (some ⟨b, off, none⟩)
  | .pos _ _, _ => True

def relL (E : Nat → Value) : List S1 → List Value → Prop
  | [], [] => True
  | c :: cs, v :: vs => c.rel E v ∧ relL E cs vs
  | _, _ => False

def SV.rel (E : Nat → Value) : SV → Value → Prop
  | .c x, v => x.rel E v
  | .agg cs, v => ∃ vs : List Value, v = .agg vs.toArray ∧ relL E cs vs

theorem relL_len {E : Nat → Value} : ∀ {cs : List S1} {vs : List Value}, relL E cs vs → cs.length = vs.length
  | [], [], _ => rfl
  | _ :: _, _ :: _, h => by simp [relL_len h.2]
  | [], _ :: _, h => h.elim
  | _ :: _, [], h => h.elim

theorem relL_vals (E : Nat → Value) : ∀ vs : List Value, relL E (vs.map .val) vs
  | [] => trivial
  | _ :: vs => ⟨rfl, relL_vals E vs⟩
theorem relL_drop {E : Nat → Value} : ∀ (n : Nat) {cs : List S1} {vs : List Value}, relL E cs vs → relL E (cs.drop n) (vs.drop n)
  | 0, _, _, h => h
  | _ + 1, [], [], _ => trivial
  | n + 1, _ :: _, _ :: _, h => relL_drop n h.2
  | _ + 1, [], _ :: _, h => h.elim
  | _ + 1, _ :: _, [], h => h.elim
theorem relL_take {E : Nat → Value} : ∀ (n : Nat) {cs : List S1} {vs : List Value}, relL E cs vs → relL E (cs.take n) (vs.take n)
  | 0, _, _, _ => trivial
  | _ + 1, [], [], _ => trivial
  | n + 1, _ :: _, _ :: _, h => ⟨h.1, relL_take n h.2⟩
  | _ + 1, [], _ :: _, h => h.elim
  | _ + 1, _ :: _, [], h => h.elim
theorem relL_append {E : Nat → Value} : ∀ {cs ds : List S1} {vs ws : List Value}, relL E cs vs → relL E ds ws → relL E (cs ++ ds) (vs ++ ws)
  | [], _, [], _, _, h => h
  | _ :: _, _, _ :: _, _, h, h' => ⟨h.1, relL_append h.2 h'⟩
  | [], _, _ :: _, _, h, _ => h.elim
  | _ :: _, _, [], _, h, _ => h.elim
theorem relL_single {E : Nat → Value} {cs : List S1} {vs : List Value} {c : S1} (h : relL E cs vs) (hc : cs = [c]) : ∃ v, vs = [v] ∧ c.rel E v := by
  subst hc
  match vs, h with
  | [v], h => exact ⟨v, rfl, h.1⟩

/-- The handles that a symbolic value names are among these. -/
def S1.ment (M : Nat → Prop) : S1 → Prop
  | .ptr h _ | .rptr h _ | .row h _ | .mref h | .ptrx h _ => M h
  | _ => True
def SV.ment (M : Nat → Prop) : SV → Prop
  | .c x => x.ment M
  | .agg cs => ∀ c ∈ cs, c.ment M

/-! ### Own blocks -/

/-- Where a call began: its world, and the older blocks that are lent to it. -/
structure Root where
  w : World
  ln : Nat → Prop
  /-- the deferred calls of the activation (marks) -/
  ds : List Deferred
def Root.mine (r : Root) (b : Nat) : Prop := r.w.heap.size ≤ b ∨ r.ln b
def Root.of (w : World) : Root := ⟨w, fun _ => False, []⟩

structure Beneath (r : Root) (W : World) : Prop where
  os : W.os = r.w.os
  tape : W.tape = r.w.tape
  output : W.output = r.w.output
  size : r.w.heap.size ≤ W.heap.size
  block : ∀ k, k < r.w.heap.size → ¬ r.ln k → W.heap[k]? = r.w.heap[k]?
theorem Beneath.refl (r : Root) : Beneath r r.w := ⟨rfl, rfl, rfl, Nat.le_refl _, fun _ _ _ => rfl⟩
theorem Beneath.trans {r : Root} {W W' : World} (h : Beneath r W) (hB : Below W.heap.size W W') : Beneath r W' :=
  ⟨hB.os.trans h.os, hB.tape.trans h.tape, hB.output.trans h.output, Nat.le_trans h.size hB.size, fun k hk hn => (hB.block k (Nat.lt_of_lt_of_le hk h.size)).trans (h.block k hk hn)⟩
theorem Beneath.below {w W : World} (h : Beneath (Root.of w) W) : Below w.heap.size w W := ⟨h.os, h.tape, h.output, h.size, fun k hk => h.block k hk id⟩
theorem Root.mine_of {w : World} {b : Nat} (h : (Root.of w).mine b) : w.heap.size ≤ b := h.elim id False.elim
theorem Beneath.mine_new {r : Root} {W : World} (h : Beneath r W) {b : Nat} (hb : W.heap.size ≤ b) : r.mine b := .inl (Nat.le_trans h.size hb)

/-- An own block: its number not known; known; known, and published. -/
inductive Nm where
  | anon
  | named (b : Nat)
  | pub (b : Nat)
def Nm.at_ : Nm → Nat → Prop
  | .anon, _ => True
  | .named b', b => b' = b
  | .pub b', b => b' = b
def Nm.own : Nm → Bool
  | .pub _ => false
  | _ => true

inductive OB where
  | cells (s : Nm) (cs : List S1) (t : TypeId)
  | row (p : Option Value) (n : Nat) (vs : List Value) (t : TypeId) (k : Nat)
  | map (s : Nm) (es : Array MapEntry) (clock : Nat)

def blkOf : Value → Option Nat
  | .pointer (some a) => some a.block
  | .slice (some a) _ _ => some a.block
  | .map r => r
  | _ => none

def Nm.val : Nm → Option Value
  | .pub b => some (.pointer (some ⟨b, 0, none⟩))
  | _ => none
theorem Nm.val_own {s : Nm} (h : s.own = true) : s.val = none := by cases s <;> first | rfl | cases h
theorem Nm.own_val {s : Nm} (h : s.val = none) : s.own = true := by cases s <;> first | rfl | cases h

def OB.pub : OB → Option Value
  | .cells s _ _ => s.val
  | .row p _ _ _ _ => p
  | .map _ _ _ => none

def OB.ment (M : Nat → Prop) : OB → Prop
  | .cells _ cs _ => ∀ c ∈ cs, c.ment M
  | .row .. => True
  | .map .. => True

def OB.ok (r : Root) (E : Nat → Value) (W : World) (h : Nat) : OB → Prop
  | .cells s cs t => ∃ b vs, E h = .pointer (some ⟨b, 0, none⟩) ∧ r.mine b ∧ W.heap[b]? = some (.cells vs.toArray t (0, 0)) ∧ relL E cs vs ∧ (∀ v ∈ vs, v.oneCell' = true) ∧ s.at_ b
  | .row _ n vs t k => W.ownsRow 0 t k (E h) n vs ∧ (∀ v ∈ vs, v.oneCell' = true) ∧ ∀ b, blkOf (E h) = some b → r.mine b
  | .map s es clock => ∃ b, E h = .map (some b) ∧ r.mine b ∧ W.heap[b]? = some (.map es clock) ∧ s.at_ b

def Nm.num : Nm → Option Nat
  | .anon => none
  | .named b => some b
  | .pub b => some b
/-- The value of the block's handle, if it is known. -/
def OB.name : OB → Option Value
  | .cells s _ _ => match s.num with
    | some b => some (.pointer (some ⟨b, 0, none⟩))
    | none => none
  | .row p _ _ _ _ => p
  | .map s _ _ => match s.num with
    | some b => some (.map (some b))
    | none => none

/-- A symbolic state: the frame, the own blocks, what is published. -/
structure St where
  fr : Nat → SV
  H : Nat → Option OB
  G : Hp

/-- Where a frame keeps how far its iterator has come. -/
abbrev POS : Nat := 1000000

def upd {α : Type} (f : Nat → α) (i : Nat) (x : α) : Nat → α := fun j => cond (Nat.beq j i) x (f j)
theorem upd_same {α : Type} (f : Nat → α) (i : Nat) (x : α) : upd f i x i = x := by
  have : Nat.beq i i = true := Nat.beq_refl i
  simp [upd, this]
theorem upd_other {α : Type} (f : Nat → α) {i j : Nat} (x : α) (h : j ≠ i) : upd f i x j = f j := by
  have : Nat.beq j i = false := by
    cases hb : Nat.beq j i with
    | false => rfl
    | true => exact absurd (Nat.eq_of_beq_eq_true hb) h
  simp [upd, this]
theorem upd_comm {α : Type} (f : Nat → α) {i j : Nat} (x y : α) (h : i ≠ j) : upd (upd f i x) j y = upd (upd f j y) i x := by
  funext k
  by_cases hi : k = i
  · subst hi; rw [upd_other _ _ h, upd_same, upd_same]
  · by_cases hj : k = j
    · subst hj; rw [upd_same, upd_other _ _ hi, upd_same]
    · rw [upd_other _ _ hj, upd_other _ _ hi, upd_other _ _ hi, upd_other _ _ hj]

/-- The world W, with the values E of the handles, fits the own blocks H and what is published, G; the call began in w0, with G0 published. -/
structure Sim (w0 : Root) (G0 : Hp) (E : Nat → Value) (H : Nat → Option OB) (G : Hp) (W : World) : Prop where
  below : Beneath w0 W
  sub : Sub G W
  newG : ∀ b o, G b = some o → G0 b = some o ∨ w0.mine b
  own : ∀ h ob, H h = some ob → ob.ok w0 E W h
  pub : ∀ h ob v, H h = some ob → ob.pub = some v → E h = v ∧ ∀ b, blkOf v = some b → G b = W.heap[b]?
  priv : ∀ h ob, H h = some ob → ob.pub = none → ∀ b, blkOf (E h) = some b → G b = none
  inj : ∀ h ob h' ob' b, H h = some ob → H h' = some ob' → ob.pub = none → blkOf (E h) = some b → blkOf (E h') = some b → h = h'

structure Sat (w0 : Root) (G0 : Hp) (n : Nat) (M : Nat → Prop) (E : Nat → Value) (σ : St) (a : Act) (W : World) : Prop where
  sim : Sim w0 G0 E σ.H σ.G W
  mfr : ∀ i, (σ.fr i).ment M
  mH : ∀ h ob, σ.H h = some ob → M h ∧ ob.ment M
  fr : ∀ i, (σ.fr i).rel E (a.tmps.getD i undef)
  size : a.tmps.size = n
  defers : a.defers = w0.ds

section
variable {w0 : Root} {W W' : World} {G0 G G' : Hp} {E : Nat → Value} {H : Nat → Option OB}

theorem OB.blk {ob : OB} {h : Nat} (ho : ob.ok w0 E W h) {b : Nat} (hb : blkOf (E h) = some b) : w0.mine b ∧ b < W.heap.size := by
  cases ob with
  | cells s cs t =>
    obtain ⟨b', vs, e, hb', hw, _⟩ := ho
    rw [e] at hb; simp only [blkOf, Option.some.injEq] at hb; subst hb
    exact ⟨hb', (Array.getElem?_eq_some_iff.1 hw).1⟩
  | row p n vs t k =>
    obtain ⟨ho, _, hm⟩ := ho
    refine ⟨hm b hb, ?_⟩
    rcases ho.2 with ⟨e, _⟩ | ⟨g, cap, cur, e, _, hw, _⟩
    · rw [e] at hb; cases hb
    · rw [e] at hb; cases hb; exact (Array.getElem?_eq_some_iff.1 hw).1
  | map s es clock =>
    obtain ⟨b', e, hb', hw, _⟩ := ho
    rw [e] at hb; simp only [blkOf, Option.some.injEq] at hb; subst hb
    exact ⟨hb', (Array.getElem?_eq_some_iff.1 hw).1⟩

/-- The own block lies as it lay: it is the same own block. -/
theorem OB.ok_kept {ob : OB} {h : Nat} (ho : ob.ok w0 E W h) (hk : ∀ b, blkOf (E h) = some b → W'.heap[b]? = W.heap[b]?) : ob.ok w0 E W' h := by
  cases ob with
  | cells s cs t =>
    obtain ⟨b', vs, e, hb', hw, hr⟩ := ho
    exact ⟨b', vs, e, hb', by rw [hk b' (by rw [e]; rfl)]; exact hw, hr⟩
  | row p n vs t k =>
    obtain ⟨ho, hc, hm⟩ := ho
    refine ⟨⟨ho.1, ?_⟩, hc, hm⟩
    rcases ho.2 with hn | ⟨g, cap, cur, e, hb, hg, rest⟩
    · exact .inl hn
    · exact .inr ⟨g, cap, cur, e, hb, by rw [hk g (by rw [e]; rfl)]; exact hg, rest⟩
  | map s es clock =>
    obtain ⟨b', e, hb', hw, hr⟩ := ho
    exact ⟨b', e, hb', by rw [hk b' (by rw [e]; rfl)]; exact hw, hr⟩

/-- The world has changed at blocks that are neither own nor published, and grown: all is as it was. -/
theorem Sim.keep (h : Sim w0 G0 E H G W) (hB : Below W.heap.size W W') : Sim w0 G0 E H G W' := by
  have hlt : ∀ h1 ob b, H h1 = some ob → blkOf (E h1) = some b → W'.heap[b]? = W.heap[b]? := fun h1 ob b e hb =>
    hB.block b (OB.blk (h.own h1 ob e) hb).2
  refine ⟨h.below.trans hB, ?_, h.newG, fun h1 ob e => OB.ok_kept (h.own h1 ob e) (fun b hb => hlt h1 ob b e hb), ?_, h.priv, h.inj⟩
  · intro b o e
    have := h.sub b o e
    rw [hB.block b (Array.getElem?_eq_some_iff.1 this).1]; exact this
  · intro h1 ob v e1 e2
    obtain ⟨e3, e4⟩ := h.pub h1 ob v e1 e2
    refine ⟨e3, fun b hb => ?_⟩
    rw [hlt h1 ob b e1 (by rw [e3]; exact hb)]; exact e4 b hb

/-- More is published: blocks that no own one is. -/
theorem Sim.grow (h : Sim w0 G0 E H G W) (hg : Grow G G') (hs : Sub G' W) (hn : ∀ b o, G' b = some o → G b = some o ∨ (w0.mine b ∧ ∀ h1 ob, H h1 = some ob → blkOf (E h1) ≠ some b)) : Sim w0 G0 E H G' W := by
  refine ⟨h.below, hs, ?_, h.own, ?_, ?_, h.inj⟩
  · intro b o e
    rcases hn b o e with e' | ⟨e', _⟩
    · exact h.newG b o e'
    · exact .inr e'
  · intro h1 ob v e1 e2
    obtain ⟨e3, e4⟩ := h.pub h1 ob v e1 e2
    refine ⟨e3, fun b hb => ?_⟩
    have hb' : blkOf (E h1) = some b := by rw [e3]; exact hb
    have hlt := (OB.blk (h.own h1 ob e1) hb').2
    have e5 := e4 b hb
    rw [Array.getElem?_eq_getElem hlt] at e5 ⊢
    exact hg b _ e5
  · intro h1 ob e1 e2 b hb
    cases hG : G' b with
    | none => rfl
    | some o =>
      rcases hn b o hG with e' | ⟨_, e'⟩
      · have := h.priv h1 ob e1 e2 b hb; rw [this] at e'; cases e'
      · exact (e' h1 ob e1 hb).elim

theorem Sim.name (h : Sim w0 G0 E H G W) {i : Nat} {ob : OB} {v : Value} (hi : H i = some ob) (hn : ob.name = some v) : E i = v := by
  cases ob with
  | cells s cs t =>
    obtain ⟨b, vs, e, _, _, _, _, hat⟩ := h.own i _ hi
    rw [e]
    cases s <;> simp only [OB.name, Nm.num, Nm.at_] at hn hat <;> first | (cases hn; done) | (cases hn; rw [hat])
  | row p n vs t k =>
    simp only [OB.name] at hn
    exact (h.pub i _ v hi hn).1
  | map s es clock =>
    obtain ⟨b, e, _, _, hat⟩ := h.own i _ hi
    rw [e]
    cases s <;> simp only [OB.name, Nm.num, Nm.at_] at hn hat <;> first | (cases hn; done) | (cases hn; rw [hat])

/-- Own blocks are dropped. -/
theorem Sim.drop {H' : Nat → Option OB} (h : Sim w0 G0 E H G W) (hH : ∀ i ob, H' i = some ob → H i = some ob) : Sim w0 G0 E H' G W :=
  ⟨h.below, h.sub, h.newG, fun i ob e => h.own i ob (hH i ob e), fun i ob v e => h.pub i ob v (hH i ob e), fun i ob e => h.priv i ob (hH i ob e), fun i ob i' ob' b e e' => h.inj i ob i' ob' b (hH i ob e) (hH i' ob' e')⟩

end

/-- Two tellings of the handles' values that say the same of the handles M. -/
def Agree (M : Nat → Prop) (E E' : Nat → Value) : Prop := ∀ k, M k → E' k = E k
theorem Agree.refl (M : Nat → Prop) (E : Nat → Value) : Agree M E E := fun _ _ => rfl
theorem Agree.upd {M : Nat → Prop} (E : Nat → Value) {h : Nat} (v : Value) (hh : ¬ M h) : Agree M E (upd E h v) := fun k hk => upd_other E v (fun e => hh (e ▸ hk))

theorem S1.rel_agree {E E' : Nat → Value} {M : Nat → Prop} {x : S1} {y : Value} (hr : x.rel E y) (hm : x.ment M) (hh : Agree M E E') : x.rel E' y := by
  cases x with
  | any => trivial
  | val _ => exact hr
  | sb _ => exact hr
  | ptr k o => simp only [S1.rel, hh k hm]; exact hr
  | rptr k o => simp only [S1.rel, hh k hm]; exact hr
  | row k n => simp only [S1.rel, hh k hm]; exact hr
  | mref k => simp only [S1.rel, hh k hm]; exact hr
  | ptrx k o => simp only [S1.rel, hh k hm]; exact hr
  | pos _ _ => trivial
theorem relL_agree {E E' : Nat → Value} {M : Nat → Prop} (hh : Agree M E E') : ∀ {cs : List S1} {vs : List Value}, relL E cs vs → (∀ c ∈ cs, c.ment M) → relL E' cs vs
  | [], [], _, _ => trivial
  | _ :: _, _ :: _, hr, hm => ⟨S1.rel_agree hr.1 (hm _ (by simp)) hh, relL_agree hh hr.2 (fun c hc => hm c (by simp [hc]))⟩
  | [], _ :: _, hr, _ => hr.elim
  | _ :: _, [], hr, _ => hr.elim
theorem SV.rel_agree {E E' : Nat → Value} {M : Nat → Prop} {x : SV} {y : Value} (hr : x.rel E y) (hm : x.ment M) (hh : Agree M E E') : x.rel E' y := by
  cases x with
  | c x => exact S1.rel_agree hr hm hh
  | agg cs => obtain ⟨vs, e, hr⟩ := hr; exact ⟨vs, e, relL_agree hh hr hm⟩
theorem OB.ok_agree {r : Root} {E E' : Nat → Value} {W : World} {M : Nat → Prop} {k : Nat} {ob : OB} (ho : ob.ok r E W k) (hm : ob.ment M) (hk : M k) (hh : Agree M E E') : ob.ok r E' W k := by
  cases ob with
  | cells s cs t =>
    obtain ⟨b, vs, e, h1, h2, h3, h4⟩ := ho
    exact ⟨b, vs, by rw [hh k hk]; exact e, h1, h2, relL_agree hh h3 hm, h4⟩
  | row p n vs t k' => simp only [OB.ok, hh k hk]; exact ho
  | map s es clock => simp only [OB.ok, hh k hk]; exact ho

theorem S1.ment_mono {M M' : Nat → Prop} (h : ∀ k, M k → M' k) {x : S1} (hx : x.ment M) : x.ment M' := by cases x <;> first | trivial | exact h _ hx
theorem SV.ment_mono {M M' : Nat → Prop} (h : ∀ k, M k → M' k) {x : SV} (hx : x.ment M) : x.ment M' := by
  cases x with
  | c x => exact S1.ment_mono h hx
  | agg cs => exact fun c hc => S1.ment_mono h (hx c hc)
theorem OB.ment_mono {M M' : Nat → Prop} (h : ∀ k, M k → M' k) {x : OB} (hx : x.ment M) : x.ment M' := by
  cases x with
  | cells s cs t => exact fun c hc => S1.ment_mono h (hx c hc)
  | row => trivial
  | map => trivial

/-- A new own block under a new handle; one block that nobody holds may have been written. -/
theorem Sim.new' {w0 : Root} {W W' : World} {G0 G : Hp} {E : Nat → Value} {H : Nat → Option OB} {M : Nat → Prop} (h : Sim w0 G0 E H G W) (row : Option Nat) (hg : W.grownBy W' row)
    (hrow : ∀ r, row = some r → w0.mine r ∧ G r = none ∧ ∀ k ob, H k = some ob → blkOf (E k) ≠ some r) {i : Nat} {v : Value} {ob : OB}
    (hi : ¬ M i) (hm : ∀ k ob', H k = some ob' → M k ∧ ob'.ment M)
    (hok : ob.ok w0 (upd E i v) W' i) (hp : ob.pub = none) (hnew : ∀ b, blkOf v = some b → W.heap.size ≤ b ∨ row = some b) : Sim w0 G0 (upd E i v) (upd H i (some ob)) G W' := by
  have hne : ∀ k ob', H k = some ob' → k ≠ i := fun k ob' e e' => hi (e' ▸ (hm k ob' e).1)
  have other : ∀ k ob2, H k = some ob2 → ∀ b2, blkOf (E k) = some b2 → W'.heap[b2]? = W.heap[b2]? := fun k ob2 e b2 e2 =>
    hg.block b2 (OB.blk (h.own k ob2 e) e2).2 (fun hb => (hrow b2 hb.symm).2.2 k ob2 e e2)
  refine ⟨⟨hg.os.trans h.below.os, hg.tape.trans h.below.tape, hg.output.trans h.below.output, Nat.le_trans h.below.size hg.size, fun k hlt hn => (hg.block k (Nat.lt_of_lt_of_le hlt h.below.size) (fun e => (hrow k e.symm).1.elim (by omega) hn)).trans (h.below.block k hlt hn)⟩, ?_, h.newG, ?_, ?_, ?_, ?_⟩
  · intro k o e
    have h1 := h.sub k o e
    rw [hg.block k (Array.getElem?_eq_some_iff.1 h1).1 (fun e2 => by have := (hrow k e2.symm).2.1; rw [this] at e; cases e)]; exact h1
  · intro k ob' e
    by_cases hk : k = i
    · subst hk; rw [upd_same] at e; cases e; exact hok
    · rw [upd_other _ _ hk] at e
      exact OB.ok_agree (OB.ok_kept (h.own k ob' e) (other k ob' e)) (hm k ob' e).2 (hm k ob' e).1 (Agree.upd E v hi)
  · intro k ob' u e e'
    by_cases hk : k = i
    · subst hk; rw [upd_same] at e; cases e; rw [hp] at e'; cases e'
    · rw [upd_other _ _ hk] at e ⊢
      obtain ⟨e3, e4⟩ := h.pub k ob' u e e'
      exact ⟨e3, fun b hb => by rw [other k ob' e b (by rw [e3]; exact hb)]; exact e4 b hb⟩
  · intro k ob' e e' b hb
    by_cases hk : k = i
    · subst hk
      rw [upd_same] at hb
      cases hG : G b with
      | none => rfl
      | some o =>
        have h1 := (Array.getElem?_eq_some_iff.1 (h.sub b o hG)).1
        rcases hnew b hb with h2 | h2
        · omega
        · have := (hrow b h2).2.1; rw [this] at hG; cases hG
    · rw [upd_other _ _ hk] at e hb
      exact h.priv k ob' e e' b hb
  · intro k ob' k' ob2 b e e2 e3 e4 e5
    have low : ∀ j oj, H j = some oj → blkOf (E j) = some b → b < W.heap.size ∧ row ≠ some b := fun j oj ej eb => ⟨(OB.blk (h.own j oj ej) eb).2, fun e => (hrow b e).2.2 j oj ej eb⟩
    have no : blkOf v = some b → ∀ j oj, H j = some oj → blkOf (E j) = some b → False := fun ev j oj ej eb => by
      have h1 := low j oj ej eb
      rcases hnew b ev with h2 | h2
      · omega
      · exact h1.2 h2
    by_cases hk : k = i <;> by_cases hk' : k' = i
    · rw [hk, hk']
    · subst hk; rw [upd_same] at e4; rw [upd_other _ _ hk'] at e2 e5
      exact (no e4 k' ob2 e2 e5).elim
    · subst hk'; rw [upd_same] at e5; rw [upd_other _ _ hk] at e e4
      exact (no e5 k ob' e e4).elim
    · rw [upd_other _ _ hk] at e e4; rw [upd_other _ _ hk'] at e2 e5
      exact h.inj k ob' k' ob2 b e e2 e3 e4 e5

theorem Sim.new {w0 : Root} {W W' : World} {G0 G : Hp} {E : Nat → Value} {H : Nat → Option OB} {M : Nat → Prop} (h : Sim w0 G0 E H G W) (hB : Below W.heap.size W W') {i : Nat} {v : Value} {ob : OB}
    (hi : ¬ M i) (hm : ∀ k ob', H k = some ob' → M k ∧ ob'.ment M)
    (hok : ob.ok w0 (upd E i v) W' i) (hp : ob.pub = none) (hnew : ∀ b, blkOf v = some b → W.heap.size ≤ b) : Sim w0 G0 (upd E i v) (upd H i (some ob)) G W' :=
  h.new' none ⟨hB.os, hB.tape, hB.output, hB.size, fun k hk _ => hB.block k hk⟩ (fun r e => by cases e) hi hm hok hp (fun b hb => .inl (hnew b hb))

/-- An own block that is not published is written; or goes. -/
theorem Sim.set {w0 : Root} {W W' : World} {G0 G : Hp} {E : Nat → Value} {H : Nat → Option OB} (h : Sim w0 G0 E H G W) {i b : Nat} {ob : OB} (hi : H i = some ob) (hp : ob.pub = none) (hb : blkOf (E i) = some b)
    (hW : W'.os = W.os ∧ W'.tape = W.tape ∧ W'.output = W.output ∧ W.heap.size ≤ W'.heap.size) (hk : ∀ k, k < W.heap.size → k ≠ b → W'.heap[k]? = W.heap[k]?)
    {ob' : OB} (hok : ob'.ok w0 E W' i) (hp' : ob'.pub = none) : Sim w0 G0 E (upd H i (some ob')) G W' := by
  have hbl := OB.blk (h.own i ob hi) hb
  have other : ∀ k ob2, H k = some ob2 → k ≠ i → ∀ b2, blkOf (E k) = some b2 → W'.heap[b2]? = W.heap[b2]? := fun k ob2 e hne b2 e2 =>
    hk b2 (OB.blk (h.own k ob2 e) e2).2 (fun hbb => hne (h.inj i ob k ob2 b hi e hp hb (hbb ▸ e2)).symm)
  refine ⟨⟨hW.1.trans h.below.os, hW.2.1.trans h.below.tape, hW.2.2.1.trans h.below.output, Nat.le_trans h.below.size hW.2.2.2, fun k hlt hn => (hk k (Nat.lt_of_lt_of_le hlt h.below.size) (fun e => hbl.1.elim (by omega) (e ▸ hn))).trans (h.below.block k hlt hn)⟩, ?_, h.newG, ?_, ?_, ?_, ?_⟩
  · intro k o e
    have h1 := h.sub k o e
    have hne : k ≠ b := fun e2 => by have := h.priv i ob hi hp b hb; rw [← e2, e] at this; cases this
    rw [hk k (Array.getElem?_eq_some_iff.1 h1).1 hne]; exact h1
  · intro k ob2 e
    by_cases hki : k = i
    · subst hki; rw [upd_same] at e; cases e; exact hok
    · rw [upd_other _ _ hki] at e
      exact OB.ok_kept (h.own k ob2 e) (other k ob2 e hki)
  · intro k ob2 v e e2
    by_cases hki : k = i
    · subst hki; rw [upd_same] at e; cases e; rw [hp'] at e2; cases e2
    · rw [upd_other _ _ hki] at e
      obtain ⟨e3, e4⟩ := h.pub k ob2 v e e2
      exact ⟨e3, fun b2 hb2 => by rw [other k ob2 e hki b2 (by rw [e3]; exact hb2)]; exact e4 b2 hb2⟩
  · intro k ob2 e e2
    by_cases hki : k = i
    · subst hki; exact h.priv k ob hi hp
    · rw [upd_other _ _ hki] at e; exact h.priv k ob2 e e2
  · intro k ob2 k' ob3 b2 e e2 e3 e4 e5
    by_cases hki : k = i <;> by_cases hki' : k' = i
    · rw [hki, hki']
    · subst hki; rw [upd_other _ _ hki'] at e2; exact h.inj k ob k' ob3 b2 hi e2 hp e4 e5
    · subst hki'; rw [upd_other _ _ hki] at e; exact h.inj k ob2 k' ob b2 e hi e3 e4 e5
    · rw [upd_other _ _ hki] at e; rw [upd_other _ _ hki'] at e2; exact h.inj k ob2 k' ob3 b2 e e2 e3 e4 e5

end Go.Pal
