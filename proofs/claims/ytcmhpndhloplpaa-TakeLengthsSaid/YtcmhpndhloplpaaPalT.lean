/- Readings of values, typed; contracts by them. -/
import Derived.Test.YtcmhpndhloplpaaPalS
import Derived.Test.YtcmhpndhloplpaaPalP
import Derived.WalkSpells
namespace Go.Pal
open Go.RowKit

abbrev I (n : Int) : Value := .int .i64 n
/-- How a value is read. -/
structure Rd (α : Type) where
  R : Hp → Value → α → Prop
  uniq : ∀ {G v x y}, R G v x → R G v y → x = y
  grow : ∀ {G G' v x}, Grow G G' → R G v x → R G' v x
/-- How an element is read. -/
structure El (α : Type) where
  k : Nat
  f : α → List Value
  inj : ∀ {x y}, f x = f y → x = y
  len : ∀ x, (f x).length = k
  one : ∀ x, ∀ v ∈ f x, v.oneCell' = true
def El.R {α : Type} (e : El α) (_ : Hp) (cs : List Value) (x : α) : Prop := cs = e.f x
def SlV {α : Type} (e : El α) (G : Hp) (v : Value) (l : List α) : Prop := ∃ a n c, v = .slice a n c ∧ SlR e.k e.R G a n c l ∧ n ≤ 140737488355328
theorem SlV.uniq {α : Type} {e : El α} {G : Hp} {v : Value} {x y : List α} (h : SlV e G v x) (h' : SlV e G v y) : x = y := by
  obtain ⟨a, n, c, rfl, h, _⟩ := h
  obtain ⟨a', n', c', e', h', _⟩ := h'
  cases e'
  exact h.uniq (fun cs x y h1 h2 => e.inj (h1.symm.trans h2)) h'
theorem SlV.grow {α : Type} {e : El α} {G G' : Hp} {v : Value} {x : List α} (hg : Grow G G') (h : SlV e G v x) : SlV e G' v x := by
  obtain ⟨a, n, c, rfl, h, hn⟩ := h
  exact ⟨a, n, c, rfl, SlR.grow (G := G) (G' := G') (fun _ _ h => h) h hg, hn⟩
def slRd {α : Type} (e : El α) : Rd (List α) := ⟨SlV e, fun h h' => h.uniq h', fun hg h => h.grow hg⟩
def intRd : Rd Int := ⟨fun _ v x => v = I x, fun {_ _ _ _} h h' => by rw [h] at h'; cases h'; rfl, fun {_ _ _ _} _ h => h⟩

def args1 {α : Type} (A : Rd α) (q : α → Prop) : GRel α := fun args G x => ∃ v, args = [v] ∧ A.R G v x ∧ q x
def args2 {α β : Type} (A : Rd α) (B : Rd β) (q : α → β → Prop) : GRel (α × β) := fun args G x => ∃ v w, args = [v, w] ∧ A.R G v x.1 ∧ B.R G w x.2 ∧ q x.1 x.2
def args3 {α β γ : Type} (A : Rd α) (B : Rd β) (C : Rd γ) (q : α → β → γ → Prop) : GRel (α × β × γ) := fun args G x => ∃ u v w, args = [u, v, w] ∧ A.R G u x.1 ∧ B.R G v x.2.1 ∧ C.R G w x.2.2 ∧ q x.1 x.2.1 x.2.2
theorem ok1 {α : Type} (A : Rd α) (q : α → Prop) : GOk (args1 A q) :=
  ⟨fun _ _ _ _ ⟨v, h, h1, _⟩ ⟨v', h', h1', _⟩ => by rw [h] at h'; cases h'; exact A.uniq h1 h1', fun _ _ _ _ hg ⟨v, h, h1, h2⟩ => ⟨v, h, A.grow hg h1, h2⟩⟩
theorem ok2 {α β : Type} (A : Rd α) (B : Rd β) (q : α → β → Prop) : GOk (args2 A B q) :=
  ⟨fun _ _ x y ⟨v, w, h, h1, h2, _⟩ ⟨v', w', h', h1', h2', _⟩ => by rw [h] at h'; cases h'; exact Prod.ext (A.uniq h1 h1') (B.uniq h2 h2'), fun _ _ _ _ hg ⟨v, w, h, h1, h2, h3⟩ => ⟨v, w, h, A.grow hg h1, B.grow hg h2, h3⟩⟩
theorem ok3 {α β γ : Type} (A : Rd α) (B : Rd β) (C : Rd γ) (q : α → β → γ → Prop) : GOk (args3 A B C q) :=
  ⟨fun _ _ x y ⟨u, v, w, h, h1, h2, h3, _⟩ ⟨u', v', w', h', h1', h2', h3', _⟩ => by rw [h] at h'; cases h'; exact Prod.ext (A.uniq h1 h1') (Prod.ext (B.uniq h2 h2') (C.uniq h3 h3')), fun _ _ _ _ hg ⟨u, v, w, h, h1, h2, h3, h4⟩ => ⟨u, v, w, h, A.grow hg h1, B.grow hg h2, C.grow hg h3, h4⟩⟩

def lst : Value → List Value
  | .agg cs => cs.toList
  | _ => []


/-- An element's cells. -/
theorem SlR.el {α : Type} {e : El α} {G : Hp} {a : Option Addr} {n c : Nat} {l : List α} (h : SlR e.k e.R G a n c l) {i : Nat} (hi : i < l.length) : CellsAt G (ab a) (ao a + i * e.k) (e.f l[i]) := by
  obtain ⟨cs, _, h2, h3⟩ := h.at_ i hi
  have h3 : cs = e.f l[i] := h3
  subst h3; exact h2
theorem RdP.at {G : Hp} {b off n : Nat} {A : List Value → Prop} {cs : List Value} (h2 : CellsAt G b off cs) (h1 : cs.length = n) (h3 : W (A cs)) : RdP G b off n A := ⟨cs, h1, h2, h3⟩
theorem RdP.sub {G : Hp} {b off d n : Nat} {A : List Value → Prop} {cs : List Value} (h2 : CellsAt G b off cs) (h1 : ((cs.drop d).take n).length = n) (h3 : W (A ((cs.drop d).take n))) : RdP G b (off + d) n A := ⟨_, h1, h2.drop, h3⟩
theorem RdP.sub2 {G : Hp} {b off d e n : Nat} {A : List Value → Prop} {cs : List Value} (h2 : CellsAt G b off cs) (h1 : ((cs.drop (d + e)).take n).length = n) (h3 : W (A ((cs.drop (d + e)).take n))) : RdP G b (off + d + e) n A := ⟨_, h1, by rw [Nat.add_assoc]; exact h2.drop, h3⟩
theorem RdP.sub3 {G : Hp} {b off d e f n : Nat} {A : List Value → Prop} {cs : List Value} (h2 : CellsAt G b off cs) (h1 : ((cs.drop (d + e + f)).take n).length = n) (h3 : W (A ((cs.drop (d + e + f)).take n))) : RdP G b (off + d + e + f) n A := ⟨_, h1, by rw [Nat.add_assoc, Nat.add_assoc, ← Nat.add_assoc d]; exact h2.drop, h3⟩
theorem EqP.at {l : List Value} {n : Nat} {A : List Value → Prop} (h1 : l.length = n) (h3 : W (A l)) : EqP l n A := ⟨l, rfl, h1, h3⟩

theorem SlR.all {α : Type} {e : El α} {G : Hp} {a : Option Addr} {n c : Nat} {l : List α} (h : SlR e.k e.R G a n c l) : CellsAt G (ab a) (ao a) (l.map e.f).flatten ∧ (l.map e.f).flatten.length = n * e.k ∧ ∀ v ∈ (l.map e.f).flatten, v.oneCell' = true := by
  have hl : ∀ l : List α, (l.map e.f).flatten.length = l.length * e.k := by
    intro l
    induction l with
    | nil => simp
    | cons x r ih => simp only [List.map_cons, List.flatten_cons, List.length_append, ih, e.len, List.length_cons, Nat.add_mul, Nat.one_mul]; omega
  have hat : ∀ (l : List α) (j : Nat) (v : Value), (l.map e.f).flatten[j]? = Option.some v → ∃ i, ∃ h : i < l.length, ∃ d, j = i * e.k + d ∧ (e.f l[i])[d]? = Option.some v := by
    intro l
    induction l with
    | nil => intro j v hj; simp at hj
    | cons x r ih =>
      intro j v hj
      simp only [List.map_cons, List.flatten_cons] at hj
      by_cases hlt : j < (e.f x).length
      · rw [List.getElem?_append_left hlt] at hj
        exact ⟨0, by simp, j, by simp, hj⟩
      · rw [List.getElem?_append_right (by omega)] at hj
        obtain ⟨i, h, d, h1, h2⟩ := ih _ _ hj
        rw [e.len] at h1 hlt
        exact ⟨i + 1, by simpa using h, d, by rw [Nat.add_mul]; omega, by simpa using h2⟩
  refine ⟨fun j v hj => ?_, by rw [hl, h.len], fun v hv => ?_⟩
  · obtain ⟨i, hi, d, rfl, h2⟩ := hat l j v hj
    have := h.el hi d v h2
    rwa [Nat.add_assoc] at this
  · obtain ⟨x, hx, hv⟩ := List.mem_flatten.1 hv
    obtain ⟨y, _, rfl⟩ := List.mem_map.1 hx
    exact e.one y v hv

/-- A published row is read as a list of elements. -/
theorem PubRow.sl {α : Type} {e : El α} {G : Hp} {a : Option Addr} {n c : Nat} {l : List α} {vs : List Value} (h : PubRow G a n c vs) (hv : vs = (l.map e.f).flatten) (hn : l.length = n) : SlR e.k e.R G a n c l := by
  refine ⟨hn, h.cap, h.some, fun i hi => ⟨e.f l[i], e.len _, ?_, rfl⟩⟩
  intro j v hj
  have hlt : j < e.k := by
    have := (List.getElem?_eq_some_iff.1 hj).1
    rwa [e.len] at this
  have key : ∀ (l : List α) (i : Nat) (hi : i < l.length), (l.map e.f).flatten[i * e.k + j]? = (e.f l[i])[j]? := by
    intro l
    induction l with
    | nil => intro i hi; simp at hi
    | cons x r ih =>
      intro i hi
      cases i with
      | zero => simp only [List.map_cons, List.flatten_cons, Nat.zero_mul, Nat.zero_add, List.getElem_cons_zero]; rw [List.getElem?_append_left (by rw [e.len]; exact hlt)]
      | succ i =>
        simp only [List.map_cons, List.flatten_cons, List.getElem_cons_succ]
        rw [List.getElem?_append_right (by rw [e.len, Nat.add_mul]; omega), e.len, show (i + 1) * e.k + j - e.k = i * e.k + j by rw [Nat.add_mul]; omega]
        exact ih i (by simpa using hi)
  have := h.cells (i * e.k + j) v (by rw [hv, key l i hi]; exact hj)
  rwa [← Nat.add_assoc] at this
theorem PubRow.slV {α : Type} {e : El α} {G : Hp} {a : Option Addr} {n c : Nat} {l : List α} {vs : List Value} (h : PubRow G a n c vs) (hv : vs = (l.map e.f).flatten) (hn : l.length = n) (hb : n ≤ 140737488355328) : SlV e G (.slice a n c) l := ⟨a, n, c, rfl, h.sl hv hn, hb⟩
/-- An own row that is read as a list of elements. -/
structure Row {α : Type} (e : El α) (l : List α) (n : Nat) (vs : List Value) : Prop where
  n : n = l.length
  vs : vs = (l.map e.f).flatten
theorem Row.nil {α : Type} {e : El α} : Row e [] 0 [] := ⟨rfl, rfl⟩
theorem Row.snoc {α : Type} {e : El α} {l : List α} {n : Nat} {vs us : List Value} (h : Row e l n vs) (x : α) (hu : us = e.f x := by rfl) : Row e (l ++ [x]) (n + 1) (vs ++ us) := by
  subst hu; obtain ⟨rfl, rfl⟩ := h; exact ⟨by simp, by simp⟩
theorem Row.len {α : Type} {e : El α} {l : List α} {n : Nat} {vs : List Value} (h : Row e l n vs) : vs.length = n * e.k := by
  obtain ⟨rfl, rfl⟩ := h
  induction l with
  | nil => simp
  | cons x r ih => simp only [List.map_cons, List.flatten_cons, List.length_append, ih, e.len, List.length_cons, Nat.add_mul, Nat.one_mul]; omega
/-- An element's cells in an own row. -/
theorem Row.at {α : Type} {e : El α} {l : List α} {n : Nat} {vs : List Value} (h : Row e l n vs) {i : Nat} (hi : i < l.length) : (vs.drop (i * e.k)).take e.k = e.f l[i] := by
  obtain ⟨rfl, rfl⟩ := h
  induction l generalizing i with
  | nil => simp at hi
  | cons x r ih =>
    cases i with
    | zero => simp only [List.map_cons, List.flatten_cons, Nat.zero_mul, List.drop_zero, List.getElem_cons_zero]; rw [List.take_append_of_le_length (by rw [e.len]; exact Nat.le_refl _), List.take_of_length_le (by rw [e.len]; exact Nat.le_refl _)]
    | succ i =>
      simp only [List.map_cons, List.flatten_cons, List.getElem_cons_succ]
      rw [List.drop_append, List.drop_of_length_le (by rw [e.len, Nat.add_mul]; omega), List.nil_append, e.len, show (i + 1) * e.k - e.k = i * e.k by rw [Nat.add_mul]; omega]
      exact ih (by simpa using hi)
theorem EqP.row {α : Type} {e : El α} {l : List α} {n : Nat} {vs : List Value} (h : Row e l n vs) {i : Nat} (hi : i < l.length) {A : List Value → Prop} (k : W (A (e.f l[i]))) : EqP ((vs.drop (i * e.k)).take e.k) e.k A := ⟨_, h.at hi, e.len _, k⟩
theorem seg_get {α : Type} {Y Ys : List α} {k j : Nat} (h : (Y.drop k).take Ys.length = Ys) (hj : j < Ys.length) : Y[k + j]? = Ys[j]? := by
  have e : (Y.drop k)[j]? = Ys[j]? := by
    rw [← h] at hj ⊢
    rw [List.getElem?_take, if_pos]
    rw [h] at hj; exact hj
  rw [← e, List.getElem?_drop]
theorem Row.pub {α : Type} {e : El α} {G : Hp} {a : Option Addr} {n c : Nat} {l : List α} {vs : List Value} (h : Row e l n vs) (hp : PubRow G a n c vs) (hb : n ≤ 140737488355328) : SlV e G (.slice a n c) l := hp.slV h.vs h.n.symm hb
theorem SlV.nil {α : Type} {e : El α} {G : Hp} : SlV e G (.slice none 0 0) [] := ⟨none, 0, 0, rfl, ⟨rfl, Nat.le_refl _, fun h => absurd rfl h, fun i hi => by simp at hi⟩, Nat.zero_le _⟩

/-- 's == nil' -/
theorem pur_sl_nil {P : Program} {t e : TypeId} (h : P.underlying t = some (.slice e)) (a : Option Addr) (n c n' c' : Nat) : ∀ w, ((POp.bin .eql t).sem [.slice a n c, .slice none n' c']).run P w = .ok (.bool a.isNone) w := fun w => by
  have e1 : (POp.bin .eql t).sem [.slice a n c, .slice none n' c'] = (do eqGuard .eql t (.tmp 0) (.tmp 0) (.slice a n c) (.slice none n' c'); binOp .eql t (.slice a n c) (.slice none n' c')) := rfl
  have e2 : eqGuard .eql t (.tmp 0) (.tmp 0) (.slice a n c) (.slice none n' c') = pure () := rfl
  rw [e1, e2]
  simp only [pure_bind]
  simp only [binOp]
  simp [Op.equal, Op.maxDepth, Lib.run_equalIn_slice_nil w 9999 t e a n c n' c' h]
theorem PurP.of {P : Program} {s : Sem Value} {A : Value → Prop} (v : Value) (h : ∀ w, s.run P w = .ok v w) (k : W (A v)) : PurP P s A := ⟨v, h, k⟩
theorem Row.of_all {α : Type} {e : El α} (l : List α) {n : Nat} (h : l.length = n) : Row e l n (l.map e.f).flatten := ⟨h.symm, rfl⟩
end Go.Pal
